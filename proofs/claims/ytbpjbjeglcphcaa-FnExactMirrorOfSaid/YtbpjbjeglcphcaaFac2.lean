/- FacesOf of the program. -/
import Derived.Test.YtbpjbjeglcphcaaFac
import Derived.Test.YtbpjbjeglcphcaaAro
import Derived.Test.YtbpjbjeglcphcaaAro2
import Derived.Test.YtbpjbjeglcphcaaMark4
namespace Go.Proofs.Ytbpjbjeglcphcaa
open Go.RowKit
/-- A right rotation system, by its numbers. -/
def tOf (r : List (List Int)) : List (List Nat) := r.map fun l => l.map Int.toNat
theorem tOf_len (r : List (List Int)) : (tOf r).length = r.length := by simp [tOf]
theorem tOf_get (r : List (List Int)) (u : Nat) : (tOf r).getD u [] = (r.getD u []).map Int.toNat := by
  unfold tOf
  by_cases h : u < r.length
  · simp [h]
  · simp [h]
theorem turn_perm {row t : List Int} (h : TurnOk row t) : t.Nodup ∧ ∀ x, x ∈ t ↔ x ∈ row := by
  have hn : t.Nodup := nodup_takeA.2 fun i hi => (h.all i hi).2
  have h3 : ∀ x ∈ t, x ∈ row := fun x hx => by
    obtain ⟨i, hi, rfl⟩ := List.getElem_of_mem hx
    have := (h.all i hi).1
    simpa [hi] using this
  refine ⟨hn, fun x => ⟨h3 x, fun hx => Classical.byContradiction fun hno => ?_⟩⟩
  have := nodup_lenA (l := t) (E := row.erase x) hn (fun y hy => by
    rw [List.mem_erase_of_ne (fun e => hno (by rw [← e]; exact hy))]
    exact h3 y hy)
  rw [List.length_erase_of_mem hx] at this
  have := List.length_pos_of_mem hx
  have := h.len
  omega
theorem aro_row {g r : List (List Int)} (h : AroundP g r) (u : Nat) : ∀ x, x ∈ r.getD u [] ↔ x ∈ g.getD u [] := fun x => by
  by_cases hu : u < g.length
  · exact (turn_perm (h.turn u hu)).2 x
  · have e1 : g.getD u [] = [] := by simp [show g.length ≤ u by omega]
    have e2 : r.getD u [] = [] := by have := h.len; simp [show r.length ≤ u by omega]
    rw [e1, e2]
theorem aro_ge {g r : List (List Int)} (h : AroundP g r) {u : Nat} {x : Int} (hx : x ∈ r.getD u []) : 0 ≤ x ∧ x < g.length ∧ u < g.length := by
  have h1 := (aro_row h u x).1 hx
  have hu : u < g.length := by
    apply Classical.byContradiction
    intro hu
    have e1 : g.getD u [] = [] := by simp [show g.length ≤ u by omega]
    rw [e1] at h1; cases h1
  have e : g.getD u [] = g[u] := by simp [hu]
  rw [e] at h1
  have := h.gok.ge hu x h1
  exact ⟨this.1, this.2, hu⟩
theorem aro_mem {g r : List (List Int)} (h : AroundP g r) (u v : Nat) : v ∈ (tOf r).getD u [] ↔ (v : Int) ∈ g.getD u [] := by
  rw [tOf_get, List.mem_map]
  constructor
  · rintro ⟨x, hx, rfl⟩
    have := aro_ge h hx
    rw [Int.toNat_of_nonneg this.1]
    exact (aro_row h u x).1 hx
  · intro hv
    exact ⟨(v : Int), (aro_row h u _).2 hv, by simp⟩
theorem aro_eq {g r : List (List Int)} (h : AroundP g r) : r = (tOf r).map natsI := by
  apply List.ext_getElem (by simp [tOf])
  intro i h1 h2
  simp only [tOf, List.getElem_map]
  have e : r.getD i [] = r[i] := by simp [h1]
  unfold natsI
  rw [List.map_map]
  have hid : List.map ((fun n : Nat => (n : Int)) ∘ Int.toNat) r[i] = List.map id r[i] := List.map_congr_left fun x hx => by
    have := aro_ge h (u := i) (by rw [e]; exact hx)
    simp; omega
  rw [hid, List.map_id]
theorem aro_symm {g : List (List Int)} (hg : GOk g) {u v : Nat} (h : (v : Int) ∈ g.getD u []) : v < g.length ∧ (u : Int) ∈ g.getD v [] := by
  have hu : u < g.length := by
    apply Classical.byContradiction
    intro hu
    have e1 : g.getD u [] = [] := by simp [show g.length ≤ u by omega]
    rw [e1] at h; cases h
  have e : g.getD u [] = g[u] := by simp [hu]
  rw [e] at h
  have h1 := hg.ge hu _ h
  have h2 := hg.symm u hu _ h
  exact ⟨by omega, by simpa using h2⟩
theorem aro_rot {g r : List (List Int)} (h : AroundP g r) : RotN (tOf r) := by
  refine ⟨by rw [tOf_len, h.len]; exact h.gok.hi, fun u => ?_, fun u v hv => ?_⟩
  · rw [tOf_get]
    by_cases hu : u < g.length
    · have hn := (turn_perm (h.turn u hu)).1
      rw [List.Nodup, List.pairwise_map]
      refine List.Pairwise.imp_of_mem ?_ hn
      intro a b ha hb hab e
      have h1 := aro_ge h ha
      have h2 := aro_ge h hb
      omega
    · have e2 : r.getD u [] = [] := by have := h.len; simp [show r.length ≤ u by omega]
      rw [e2]; simp
  · have h1 := (aro_mem h u v).1 hv
    have h2 := aro_symm h.gok h1
    exact ⟨by rw [tOf_len, h.len]; exact h2.1, (aro_mem h v u).2 h2.2⟩
noncomputable def facesF (g r : List (List Int)) : List (List Int) := if aroundB g r = true then (facesN (tOf r)).map natsI else []
theorem facesN_small {t : List (List Nat)} (h : RotN t) : (facesN t).length ≤ 256 ∧ ∀ f ∈ facesN t, f.length ≤ 256 ∧ ∀ v ∈ f, v < t.length := by
  refine ⟨?_, fun f hf => ?_⟩
  · have := facesAt_le h (u := t.length) (k := 0) (Nat.le_refl _)
    rw [dartsAt_all] at this
    exact this
  · exact (facesTo_inv h (L := dartsN t) (fun x hx => (mem_dartsN h).1 hx)).small f hf
theorem facesF_small (g r : List (List Int)) : SmallR (facesF g r) 1048576 := by
  unfold facesF
  split
  · rename_i hc
    have hr := aro_rot (around_iff.1 hc)
    obtain ⟨h1, h2⟩ := facesN_small hr
    refine ⟨by rw [List.length_map]; omega, fun i hi _ => ?_⟩
    rw [List.getElem_map, natsI_len]
    have := (h2 _ (List.getElem_mem (by simpa using hi))).1
    omega
  · exact ⟨by simp, fun i hi => by simp at hi⟩
set_option maxRecDepth 100000 in
set_option maxHeartbeats 8000000 in
theorem implFacesOf_any {S S' : Nat → Prop} {gv rv : Value} {g r : List (List Int)} {w : World} (hvg : SlR S w gv g) (hvr : SlR S' w rv r) (hs : SmallR r 1048576) :
    Calls Try.prog 20 #[.agg #[gv], .agg #[rv]] w fun e w' => ∃ u, e = .returned u ∧ OwnR w' w.heap.size w'.heap.size 37 2 u (facesF g r) ∧ Below w.heap.size w w' := by
  have hq0 : Below w.heap.size w ((w.alloc (.cells #[gv] 30)).alloc (.cells #[rv] 32)) := ((Below.refl _ _).alloc (Nat.le_refl _) _).alloc (by simp) _
  obtain ⟨ga, gc, rfl⟩ := hvg.slice
  obtain ⟨ra, rc, rfl⟩ := hvr.slice
  have hao := implAroundOk_any (hvg.below hq0 (Nat.le_refl _)) (hvr.below hq0 (Nat.le_refl _)) (fun x hx => by
    obtain ⟨i, hi, rfl⟩ := List.getElem_of_mem hx
    have := hs.2 i hi hi; omega)
  by_cases ha : aroundB g r = true
  case neg =>
    have HE := Lib.hid (show facesF g r = [] by rw [facesF, if_neg ha])
    rw [Bool.not_eq_true] at ha
    rw [ha] at hao
    clear ha
    rw [HE.out]
    go_enter Try.func20, Try.ntmps20
    go_wp2_with fail
    refine hao.mono ?_
    rintro e w1 ⟨rfl, hb1⟩
    go_wp2
    go_ret
    exact ⟨_, rfl, ⟨[], rfl, Own.nil _ _ _ _, fun b hb => by simp [Value.ownBlock] at hb, ApartL.nil, fun i hi => by simp at hi⟩, hq0.trans (hb1.mono hq0.size)⟩
  have hP := around_iff.1 ha
  have HE := Lib.hid (show facesF g r = (facesN (tOf r)).map natsI by rw [facesF, if_pos ha])
  rw [ha] at hao
  rw [HE.out]
  have HRT := Lib.hid (aro_rot hP)
  have HEQ := Lib.hid (aro_eq hP)
  clear ha hP
  go_enter Try.func20, Try.ntmps20
  go_wp2_with fail
  refine hao.mono ?_
  rintro e w1 ⟨rfl, hb1⟩
  have hq1 := hq0.trans (hb1.mono hq0.size)
  have c1 : w1.cell? ⟨w.heap.size + 1, 0, none⟩ = some (.slice ra r.length rc) := (hb1.cell (p := ⟨w.heap.size + 1, 0, none⟩) (by simp)).trans (by simp [go_sem])
  have htn := turnsOf_any (hvr.below hq1 (Nat.le_refl _)) hs
  clear hao
  go_wp2_with fail
  refine htn.mono ?_
  rintro e w2 ⟨tu, rfl, htu, hb2⟩
  clear htn
  have hq2 := hq1.trans (hb2.mono hq1.size)
  have htr := htu.rows hs
  rw [HEQ.out] at htr
  have hfa := faces_any HRT.out htr
  go_wp2_with fail
  refine hfa.mono ?_
  rintro e w3 ⟨fu, mb, rfl, hfu, hb3⟩
  clear hfa htr htu
  have hq3 := hq2.trans (hb3.mono hq2.size)
  have hsm := facesN_small HRT.out
  have hfr := hfu.rows (g := (facesN (tOf r)).map natsI) ⟨by rw [List.length_map]; omega, fun i hi _ => by
    rw [List.getElem_map, natsI_len]
    have := (hsm.2 _ (List.getElem_mem (by simpa using hi))).1
    omega⟩
  have hF256 := hsm.1
  have HSM := Lib.hid hsm.2
  generalize hFe : facesN (tOf r) = F at *
  have HFE := Lib.hid hFe
  clear hfu hsm hFe
  obtain ⟨fa, fb, foff, fcap, ff, rfl, hfl, hfa, hfc⟩ := hfr
  rw [List.length_map] at *
  have HFC := Lib.hid hfc
  have hq4 : Below w.heap.size w (w3.alloc (.cells #[] 37)) := hq3.alloc hq3.size _
  have hb34 : Below w3.heap.size w3 (w3.alloc (.cells #[] 37)) := (Below.refl _ _).alloc (Nat.le_refl _) _
  have hq3s := hq3.size
  have hR0 : OwnR (w3.alloc (.cells #[] 37)) w3.heap.size (w3.alloc (.cells #[] 37)).heap.size 37 2 (.slice (some ⟨w3.heap.size, 0, none⟩) 0 0) [] := by
    refine ⟨[], rfl, ?_, fun b hb => by simp [Value.ownBlock] at hb; simp; omega, ApartL.nil, fun i hi => by simp at hi⟩
    have := World.ownsRow_lit (base := w3.heap.size) (e := 37) (size := 1) w3 #[] 0 (by omega) (by unfold maxLen; omega) rfl
    simpa [Own] using this
  clear hfc
  go_wp2
  go_loopw [23, 7] (fun i o wr => ∃ k : Nat, k ≤ F.length ∧ i = .int .i64 k ∧ OwnR wr w3.heap.size wr.heap.size 37 2 o ((F.take k).map natsI) ∧ Below w3.heap.size w3 wr) (fun i _ _ => F.length - (intOf i).toNat)
  case atStart => exact ⟨0, Nat.zero_le _, rfl, hR0, hb34⟩
  case round =>
    clear hR0 hq4 hb34
    obtain ⟨k, hk, rfl, hR, hq⟩ := hrel
    obtain ⟨wi, rfl⟩ : ∃ wx : World, wx = wr := ⟨_, rfl⟩
    by_cases hlt : k < F.length
    case neg =>
      obtain rfl : k = F.length := by omega
      rw [List.take_length] at hR
      go_wp2
      go_ret
      exact ⟨_, rfl, by rw [HFE.out]; exact hR.weaken hq3s (Nat.le_refl _), hq3.trans (hq.mono hq3s)⟩
    obtain ⟨k2, r2⟩ := HFC.out k (by rw [List.length_map]; exact hlt)
    rw [List.getElem_map] at r2
    have hk20 := (HSM.out _ (List.getElem_mem hlt)).1
    have k2 := (hq.cell (cell_lt k2)).trans k2
    have hwd := wide_any (r2.below hq (Nat.le_refl _)) (by rw [natsI_len]; omega)
    have HT := Lib.hid (show (F.take (k + 1)).map natsI = (F.take k).map natsI ++ [natsI F[k]] by rw [List.take_succ_eq_append_getElem hlt, List.map_append]; rfl)
    obtain ⟨rfl, -⟩ := hfa (by omega)
    have hB := hq.size
    have hlti : (k : Int) < F.length := by omega
    generalize F[k] = row at *
    generalize ff k = rk at *
    clear r2
    go_wp2_with fail
    refine hwd.mono ?_
    rintro e w4 ⟨u2, rfl, hu2, hb4⟩
    clear hwd
    have hq4 := hq.trans (hb4.mono hB)
    have hB4 := hq4.size
    obtain ⟨vs, hvl, hown, hbC, hap, hrows⟩ := hR
    rw [List.length_map, List.length_take, Nat.min_eq_left hk] at hvl hown
    have hown2 := hown.below hb4 (Nat.le_refl _)
    have hrows2 : ∀ i (h : i < ((F.take k).map natsI).length) (h2 : i < vs.length), Own w4 w3.heap.size 2 1 vs[i] ((F.take k).map natsI)[i].length (((F.take k).map natsI)[i].map (.int .i64)) ∧ (∀ b, vs[i].ownBlock = some b → b < wi.heap.size ∧ _) := fun i h h2 => ⟨(hrows i h h2).1.below hb4 (Nat.le_refl _), (hrows i h h2).2⟩
    have hgeu := fun b hb => (hu2.lt b hb).1
    have hu2 := hu2.weak (B' := w3.heap.size) (by omega)
    have hbs2 := hb4.size
    obtain ⟨ua, uc, rfl⟩ := hu2.isSlice
    obtain ⟨oa, oc, rfl⟩ := hown2.isSlice
    clear hrows hown
    go_wp2_with (at_builtin; refine wpList_append1 elRows rfl _ _ rfl hown2 rfl (by first | rfl | simp) rfl (by omega) (by omega) ?_; intro o5 w5 hown5 hkept hmv)
    have hR5 : OwnR w5 w3.heap.size w5.heap.size 37 2 o5 ((F.take k).map natsI ++ [natsI row]) := ownR_snoc (by rw [List.length_map, List.length_take, Nat.min_eq_left hk]; exact hvl) hbs2 hap hrows2 hbC (by rw [List.length_map, List.length_take, Nat.min_eq_left hk]; exact hown5) hu2 hgeu hkept (by
      rcases hmv with h | h
      · exact .inl h
      · exact .inr ⟨_, h, by simp⟩)
    have hq5 : Below w3.heap.size w3 w5 := hkept.below hq4 hq4.size (fun c h => (hown2.lt c h).1)
    go_roundw
    case rel => exact ⟨k + 1, by omega, by go_num, by rw [HT.out]; exact hR5, hq5⟩
    case measure => simp [intOf]; omega
/-- The marks of the sides that were met. -/
def seenV (n : Nat) (D : List Dart) : Nat → Value := fun i => .bool (decide ((i / n, i % n) ∈ D))
def seenL (n : Nat) (D : List Dart) : List Value := (List.range (n * n)).map (seenV n D)
theorem seenL_len (n : Nat) (D : List Dart) : (seenL n D).length = n * n := by simp [seenL]
theorem idx_split {n p q : Nat} (hq : q < n) : (p * n + q) / n = p ∧ (p * n + q) % n = q := by
  have hn : 0 < n := by omega
  constructor
  · rw [Nat.mul_comm, Nat.mul_add_div hn, Nat.div_eq_of_lt hq]; omega
  · rw [Nat.mul_comm, Nat.mul_add_mod, Nat.mod_eq_of_lt hq]
theorem idx_lt {n p q : Nat} (hp : p < n) (hq : q < n) : p * n + q < n * n := by
  have : (p + 1) * n ≤ n * n := Nat.mul_le_mul_right n hp
  rw [Nat.succ_mul] at this
  omega
theorem seenL_get {n p q : Nat} {D : List Dart} (hp : p < n) (hq : q < n) : (seenL n D)[p * n + q]? = some (.bool (decide ((p, q) ∈ D))) := by
  have h := idx_lt hp hq
  obtain ⟨h1, h2⟩ := idx_split (p := p) hq
  simp [seenL, seenV, h, h1, h2]
theorem seenL_set {n p q : Nat} {D : List Dart} (hp : p < n) (hq : q < n) : (seenL n D).set (p * n + q) (.bool true) = seenL n (D ++ [(p, q)]) := by
  apply List.ext_getElem (by simp [seenL])
  intro i h1 h2
  rw [List.getElem_set]
  have hi : i < n * n := by simpa [seenL] using h2
  simp only [seenL, seenV, List.getElem_map, List.getElem_range]
  by_cases e : p * n + q = i
  · subst e
    obtain ⟨h1, h2⟩ := idx_split (p := p) hq
    rw [if_pos rfl, h1, h2]
    simp
  · rw [if_neg e]
    have hne : (i / n, i % n) ≠ (p, q) := fun h => by
      simp only [Prod.mk.injEq] at h
      have := Nat.div_add_mod i n
      rw [h.1, h.2, Nat.mul_comm] at this
      exact e this
    congr 1
    rw [decide_eq_decide]
    simp only [List.mem_append, List.mem_singleton, hne, or_false]
theorem seenL_start (n : Nat) : List.replicate (n * n) (Value.bool false) = seenL n [] := by
  unfold seenL seenV
  apply List.ext_getElem (by simp)
  intro i h1 h2
  simp
theorem OwnR.keptOther {w w' : World} {B C B' sb n : Nat} {cap : Nat} {EO EI E : TypeId} {u : Value} {g : List (List Int)} {xs : List Value} (h : OwnR w B C EO EI u g) (hs : Own w B' E 1 (.slice (some ⟨sb, 0, none⟩) n cap) n xs) (h1 : EO ≠ E) (h2 : EI ≠ E) (hk : KeptBut w w' (some sb)) : OwnR w' B C EO EI u g := by
  obtain ⟨vs, a1, a2, a3, hap, a4⟩ := h
  exact ⟨vs, a1, a2.kept hk (fun b hb e => own_type a2 hs h1 b hb (by rw [← e]; rfl)), a3, hap, fun i hi hi2 => ⟨(a4 i hi hi2).1.kept hk (fun b hb e => own_type (a4 i hi hi2).1 hs h2 b hb (by rw [← e]; rfl)), (a4 i hi hi2).2⟩⟩
theorem elMarksF : Elem Try.prog 78 4 1 1 (.bool false) := ⟨Try.underlying78, by kernel_rfl, rfl, by omega, by omega⟩
set_option maxHeartbeats 2000000 in
theorem l22Behind_any {S : Nat → Prop} {v : Value} {l : List Nat} {u : Nat} {w : World} (hv : SlI S w .i64 v (natsI l)) (h16 : l.length ≤ 16) (hu : u ∈ l) :
    Calls Try.prog 61 #[v, .int .i64 (u : Int)] w fun e w' => e = .returned (.int .i64 (nextIn l u : Int)) ∧ w = w' := by
  have hi := List.idxOf_lt_length_of_mem hu
  have HN := Lib.hid (show nextIn l u = l.getD ((l.idxOf u + 1) % l.length) 0 from rfl)
  obtain ⟨la, lb, lo, lc, rfl, hll, hla, hlc⟩ := hv
  rw [natsI_len] at *
  have hc : ∀ k (hk : k < l.length), w.cell? ⟨lb, lo + k, none⟩ = some (.int .i64 (l[k] : Int)) := fun k hk => by
    have := hlc k (by rw [natsI_len]; exact hk)
    rw [natsI_get] at this; exact this
  obtain ⟨rfl, -⟩ := hla (by omega)
  have HC := Lib.hid hc
  clear hlc hc hla
  go_enter Try.func61, Try.ntmps61
  go_wp2
  go_loop [5] (fun i => ∃ k : Nat, k ≤ l.idxOf u ∧ i = .int .i64 k) (fun i => l.length - (intOf i).toNat)
  case atStart => exact ⟨0, Nat.zero_le _, rfl⟩
  case round =>
    obtain ⟨k, hk, rfl⟩ := hrel
    have hkl : k < l.length := by omega
    have hck := HC.out k hkl
    by_cases he : l[k] = u
    · have hkx : k = l.idxOf u := by
        have h1 : l.idxOf u ≤ k := by
          apply Nat.le_of_not_lt
          intro hlt
          have := List.not_of_lt_findIdx (xs := l) (p := (· == u)) (i := k) hlt
          simp [he] at this
        omega
      have hb : ((l[k] : Int) == (u : Int)) = true := by rw [beq_iff_eq, he]
      have hm : (k + 1) % l.length < l.length := Nat.mod_lt _ (by omega)
      have hcm := HC.out _ hm
      have hz : l[(k + 1) % l.length] = nextIn l u := by rw [HN.out, ← hkx]; simp [hm]
      rw [hz] at hcm
      have hmod : Int.tmod ((k : Int) + 1) (l.length : Int) = (((k + 1) % l.length : Nat) : Int) := by
        rw [show ((k : Int) + 1) = ((k + 1 : Nat) : Int) by omega]
        rfl
      have hl0 : l.length ≠ 0 := by omega
      generalize (k + 1) % l.length = m at *
      generalize hze : nextIn l u = z at *
      have HZ := Lib.hid hze
      clear hze
      generalize l[k] = y at *
      have hmi : (m : Int) < l.length := by omega
      clear hz hkx he hi hk
      go_wp2
      go_ret
      exact ⟨ret_int (by rw [HZ.out]), rfl⟩
    · have hb : ((l[k] : Int) == (u : Int)) = false := by rw [beq_eq_false_iff_ne]; omega
      have hb2 : (l[k] == u) = false := by rw [beq_eq_false_iff_ne]; exact he
      have hk2 : k + 1 ≤ l.idxOf u := by
        apply Nat.lt_of_le_of_ne hk
        intro e
        subst e
        exact he (List.getElem_idxOf hi)
      generalize l[k] = y at *
      clear he
      go_wp2
      go_round
      case rel => exact ⟨k + 1, hk2, by go_num⟩
      case measure => simp [intOf]; omega
set_option maxRecDepth 100000 in
set_option maxHeartbeats 16000000 in
theorem l22Faces_any {S : Nat → Prop} {tv : Value} {t : List (List Nat)} {w : World} (ht : RotN t) (h0 : 0 < t.length) (hv : SlR S w tv (t.map natsI)) :
    Calls Try.prog 38 #[tv] w fun e w' => ∃ u, e = .returned u ∧ OwnR w' w.heap.size w'.heap.size 37 2 u ((facesN t).map natsI) ∧ Below w.heap.size w w' := by
  obtain ⟨ra, rb, roff, rcap, rf, rfl, hrl, hra, hrc⟩ := hv
  rw [List.length_map] at *
  have h16 := ht.le
  have hnn : (t.length : Int) * (t.length : Int) = ((t.length * t.length : Nat) : Int) := (Int.natCast_mul _ _).symm
  have hN256 : t.length * t.length ≤ 256 := by have := Nat.mul_le_mul h16 h16; omega
  have hNl := fun p q (hp : p < t.length) (hq : q < t.length) => idx_lt (n := t.length) hp hq
  have hmk := run_make_row' (P := Try.prog) 78 4 (.bool false) 1 elMarksF.ht elMarksF.hi rfl .i64 .i64 (t.length * t.length) (by omega) (by omega)
  have HNL := Lib.hid hNl
  have hsn0 := Own.made w w.heap.size 4 (.bool false) (t.length * t.length) (Nat.le_refl _) (by omega)
  rw [seenL_start] at hsn0
  have hSGET := fun D p q (hp : p < t.length) (hq : q < t.length) => seenL_get (n := t.length) (D := D) hp hq
  have hSSET := fun D p q (hp : p < t.length) (hq : q < t.length) => seenL_set (n := t.length) (D := D) hp hq
  have HSGET := Lib.hid hSGET
  have HSSET := Lib.hid hSSET
  clear hNl hSGET hSSET
  generalize t.length * t.length = N at *
  have hq0 : Below w.heap.size w ((w.alloc (.cells (madeCells #[Value.bool false] N) 4)).alloc (.cells #[] 37)) := ((Below.refl _ _).alloc (Nat.le_refl _) _).alloc (by simp) _
  have hsn1 : Own ((w.alloc (.cells (madeCells #[Value.bool false] N) 4)).alloc (.cells #[] 37)) w.heap.size 4 1 (.slice (some ⟨w.heap.size, 0, none⟩) N N) N (seenL t.length []) := hsn0.alloc _
  have hR0 : OwnR ((w.alloc (.cells (madeCells #[Value.bool false] N) 4)).alloc (.cells #[] 37)) w.heap.size ((w.alloc (.cells (madeCells #[Value.bool false] N) 4)).alloc (.cells #[] 37)).heap.size 37 2 (.slice (some ⟨w.heap.size + 1, 0, none⟩) 0 0) [] := by
    refine ⟨[], rfl, ?_, fun b hb => by simp [Value.ownBlock] at hb; simp; omega, ApartL.nil, fun i hi => by simp at hi⟩
    have := World.ownsRow_lit (base := w.heap.size) (e := 37) (size := 1) (w.alloc (.cells (madeCells #[Value.bool false] N) 4)) #[] 0 (by simp) (by unfold maxLen; omega) rfl
    simpa [Own] using this
  have HRC := Lib.hid hrc
  have HT := Lib.hid ht
  clear hrc hsn0
  go_enter Try.func38, Try.ntmps38
  go_wp2
  clear hmk
  go_loopw [6, 5] (fun iv ov wr => ∃ (u : Nat) (F : List (List Nat)) (D : List Dart), u ≤ t.length ∧ iv = .int .i64 u ∧ RowKit.Hid (facesTo t (dartsTo t u 0) = (F, D)) ∧ OwnR wr w.heap.size wr.heap.size 37 2 ov (F.map natsI) ∧ Own wr w.heap.size 4 1 (.slice (some ⟨w.heap.size, 0, none⟩) N N) N (seenL t.length D) ∧ Below w.heap.size w wr) (fun iv _ _ => t.length - (intOf iv).toNat)
  case atStart => exact ⟨0, [], [], Nat.zero_le _, rfl, Lib.hid (by rw [dartsTo_zero]; rfl), hR0, hsn1, hq0⟩
  case round =>
    clear hR0 hsn1 hq0
    obtain ⟨u, F, D, hu, rfl, HF, hR, hsn, hq⟩ := hrel
    obtain ⟨wi, rfl⟩ : ∃ wx : World, wx = wr := ⟨_, rfl⟩
    by_cases hlt : u < t.length
    case neg =>
      obtain rfl : u = t.length := by omega
      have HE := Lib.hid (show F = facesN t by unfold facesN; rw [← dartsTo_all, HF.out])
      go_wp2
      go_ret
      exact ⟨_, rfl, by rw [← HE.out]; exact hR, hq⟩
    have hul : u < (t.map natsI).length := by rw [List.length_map]; exact hlt
    obtain ⟨k1, r1⟩ := HRC.out u hul
    have e : (t.map natsI)[u] = natsI (t.getD u []) := by simp [hlt]
    rw [e] at r1
    obtain ⟨row, hrowe⟩ : ∃ row, row = t.getD u [] := ⟨_, rfl⟩
    rw [← hrowe] at r1
    obtain ⟨rowa, rowc, hre⟩ := r1.slice
    rw [hre] at k1 r1
    have HROWE := Lib.hid hrowe
    have hlti : (u : Int) < t.length := by omega
    obtain ⟨rfl, -⟩ := hra (by omega)
    have hmul : (u : Int) * (t.length : Int) = ((u * t.length : Nat) : Int) := (Int.natCast_mul _ _).symm
    have HMV := Lib.hid (fun v : Nat => show (((v : Int) ∈ natsI row) ↔ v ∈ t.getD u []) by
      rw [HROWE.out]
      unfold natsI
      rw [List.mem_map]
      exact ⟨fun ⟨x, hx, e⟩ => by have : x = v := by omega
                                  rw [← this]; exact hx, fun h => ⟨v, h, rfl⟩⟩)
    have hul2 : u * t.length ≤ 256 := by have := Nat.mul_le_mul (Nat.le_of_lt hlt) (Nat.le_refl t.length); have := Nat.mul_le_mul h16 h16; omega
    have HUM := Lib.hid (show u * t.length = u * t.length from rfl)
    obtain ⟨um, hum⟩ : ∃ um, um = u * t.length := ⟨_, rfl⟩
    rw [← hum] at hmul hul2
    have HUM2 := Lib.hid hum
    clear e hre hum HUM hrowe hul
    go_wp2
    go_loopw [7, 5] (fun iv ov wr => ∃ (v : Nat) (F : List (List Nat)) (D : List Dart), v ≤ t.length ∧ iv = .int .i64 v ∧ RowKit.Hid (facesTo t (dartsTo t u v) = (F, D)) ∧ OwnR wr w.heap.size wr.heap.size 37 2 ov (F.map natsI) ∧ Own wr w.heap.size 4 1 (.slice (some ⟨w.heap.size, 0, none⟩) N N) N (seenL t.length D) ∧ Below w.heap.size w wr) (fun iv _ _ => t.length - (intOf iv).toNat)
    case atStart => exact ⟨0, F, D, Nat.zero_le _, rfl, HF, hR, hsn, hq⟩
    case round =>
      clear hR hsn hq HF F D
      obtain ⟨v, F, D, hvl, rfl, HF, hR, hsn, hq⟩ := hrel
      obtain ⟨wi, rfl⟩ : ∃ wx : World, wx = wr := ⟨_, rfl⟩
      by_cases hvt : v < t.length
      case neg =>
        obtain rfl : v = t.length := by omega
        have HF2 := Lib.hid (show facesTo t (dartsTo t (u + 1) 0) = (F, D) by rw [dartsTo_row]; exact HF.out)
        go_wp2
        go_roundw
        case rel => exact ⟨u + 1, F, D, by omega, by go_num, HF2, hR, hsn, hq⟩
        case measure => simp [intOf]; omega
      have k1 := (hq.cell (cell_lt k1)).trans k1
      have r1 := r1.below hq (Nat.le_refl _)
      have hha := l1Has_any _ _ (v : Int) _ r1
      have hNu := HNL.out u v hlt hvt
      rw [← HUM2.out] at hNu
      have hsc : wi.cell? ⟨w.heap.size, um + v, none⟩ = some (.bool (decide ((u, v) ∈ D))) := by
        have := World.ownsRow.cellAt hsn (um + v) (by omega)
        rw [this, HUM2.out]
        exact HSGET.out D u v hlt hvt
      by_cases hm : v ∈ t.getD u []
      case neg =>
        rw [decide_eq_false (fun h => hm ((HMV.out v).1 h))] at hha
        have HF2 := Lib.hid (show facesTo t (dartsTo t u (v + 1)) = (F, D) by rw [dartsTo_no hm]; exact HF.out)
        clear hm
        go_wp2_with (go_at_call 31; refine hha.mono ?_; rintro e w' ⟨rfl, rfl⟩)
        go_roundw
        case rel => exact ⟨v + 1, F, D, by omega, by go_num, HF2, hR, hsn, hq⟩
        case measure => simp [intOf]; omega
      rw [decide_eq_true ((HMV.out v).2 hm)] at hha
      have HYES := Lib.hid (dartsTo_yes hm)
      have hxD : IsD t (u, v) := hm
      clear hm
      by_cases hin : (u, v) ∈ D
      case pos =>
        rw [decide_eq_true hin] at hsc
        have HF2 := Lib.hid (show facesTo t (dartsTo t u (v + 1)) = (F, D) by rw [HYES.out, facesTo_snoc, HF.out, fstep, if_pos hin])
        go_wp2_with (go_at_call 31; refine hha.mono ?_; rintro e w' ⟨rfl, rfl⟩)
        go_roundw
        case rel => exact ⟨v + 1, F, D, by omega, by go_num, HF2, hR, hsn, hq⟩
        case measure => simp [intOf]; omega
      rw [decide_eq_false hin] at hsc
      have hFI : FInv t F D := by
        have := facesTo_inv HT.out (dartsTo_isD HT.out (u := u) (v := v))
        rw [HF.out] at this; exact this
      have hFl : F.length ≤ 256 + v := by
        have := facesTo_le HT.out (u := u) (v := v) hu
        rw [HF.out] at this; exact this
      have HFI := Lib.hid hFI
      have hb00 : Below wi.heap.size wi (wi.alloc (.cells #[] 2)) := (Below.refl _ _).alloc (Nat.le_refl _) _
      have hsn00 := hsn.below hb00 (Nat.le_refl _)
      have hf00 : Own (wi.alloc (.cells #[] 2)) wi.heap.size 2 1 (.slice (some ⟨wi.heap.size, 0, none⟩) 0 0) ([] : List Nat).length ((natsI []).map (.int .i64)) := by
        have := World.ownsRow_lit (base := wi.heap.size) (e := 2) (size := 1) wi #[] 0 (Nat.le_refl _) (by unfold maxLen; omega) rfl
        simpa [Own, natsI] using this
      have hsbl : w.heap.size < wi.heap.size := (hsn.lt _ rfl).2
      clear hFI
      go_wp2_with (go_at_call 31; refine hha.mono ?_; rintro e w' ⟨rfl, rfl⟩)
      go_loopw [8, 9, 10] (fun fv pv qv wr => ∃ (D' : List Dart) (p q : Nat) (f : List Nat), pv = .int .i64 p ∧ qv = .int .i64 q ∧ RowKit.Hid (trW t D' (p, q) f = trW t D (u, v) []) ∧ RowKit.Hid (IsD t (p, q)) ∧ Own wr wi.heap.size 2 1 fv f.length ((natsI f).map (.int .i64)) ∧ Own wr w.heap.size 4 1 (.slice (some ⟨w.heap.size, 0, none⟩) N N) N (seenL t.length D') ∧ RowKit.Hid ((∀ y ∈ D', IsD t y) ∧ D'.Nodup) ∧ D'.length = D.length + f.length ∧ KeptBut wi wr (some w.heap.size)) (fun fv _ _ _ => 257 - lenV fv)
      case atStart => exact ⟨D, u, v, [], rfl, rfl, Lib.hid rfl, Lib.hid hxD, hf00, hsn00, Lib.hid ⟨HFI.out.all, HFI.out.nd⟩, by simp, keptB hb00⟩
      case round =>
        clear hf00 hsn00 hb00 hsc
        obtain ⟨D', p, q, f, rfl, rfl, HW, HX, hfv, hsj, HI, hDl, hkj⟩ := hrel
        obtain ⟨wj, rfl⟩ : ∃ wx : World, wx = wr := ⟨_, rfl⟩
        have hpq := HX.out.lt HT.out
        have h256 := len_le_sq HT.out HI.out.1 HI.out.2
        have hp16 : p < t.length := hpq.1
        have hq16 : q < t.length := hpq.2
        have hmp : (p : Int) * (t.length : Int) = ((p * t.length : Nat) : Int) := (Int.natCast_mul _ _).symm
        have hNp := HNL.out p q hp16 hq16
        obtain ⟨pm, hpm⟩ : ∃ pm, pm = p * t.length := ⟨_, rfl⟩
        have hsc : wj.cell? ⟨w.heap.size, pm + q, none⟩ = some (.bool (decide ((p, q) ∈ D'))) := by
          have := World.ownsRow.cellAt hsj (pm + q) (by rw [hpm]; omega)
          rw [this, hpm]
          exact HSGET.out D' p q hp16 hq16
        have hsf := World.ownsRow.frozenAt hsj (pm + q)
        have hst := (World.ownsRow.stored hsj (pm + q) (.bool true)).1
        rw [hpm, HSSET.out D' p q hp16 hq16, ← hpm] at hst
        have hst : Own (wj.setCell ⟨w.heap.size, pm + q, none⟩ (.bool true)) w.heap.size 4 1 (.slice (some ⟨w.heap.size, 0, none⟩) N N) N (seenL t.length (D' ++ [(p, q)])) := hst
        rw [← hpm] at hmp hNp
        obtain ⟨fa, fc, rfl⟩ := hfv.isSlice
        have hpmi : (pm : Int) + (q : Int) < N := by omega
        clear hpq hpm
        by_cases hinj : (p, q) ∈ D'
        case pos =>
          rw [decide_eq_true hinj] at hsc
          have HF2 := Lib.hid (show facesTo t (dartsTo t u (v + 1)) = (F ++ [f], D') by
            rw [HYES.out, facesTo_snoc, HF.out, fstep, if_neg hin, ← HW.out, trW_in hinj])
          have hRj := hR.keptOther hsn (by decide) (by decide) hkj
          have hqj : Below w.heap.size w wj := hkj.below hq hq.size (fun b e => by simp at e; omega)
          have hwis := hq.size
          have hfge := fun b hb => (hfv.lt b hb).1
          obtain ⟨vs, hvsl, hown, hbC, hap, hrows⟩ := hRj
          rw [List.length_map] at hvsl hown
          have hjs := hkj.2.2.2.1
          obtain ⟨oa, oc, rfl⟩ := hown.isSlice
          clear hR hinj hst hsf
          go_wp2_with (at_builtin; refine wpList_append1 elRows rfl _ _ rfl hown rfl (by first | rfl | simp) rfl (by omega) (by omega) ?_; intro o5 w5 hown5 hkept hmv)
          have hR5 : OwnR w5 w.heap.size w5.heap.size 37 2 o5 (F.map natsI ++ [natsI f]) := ownR_snoc (by rw [List.length_map]; exact hvsl) hjs hap hrows hbC (by rw [List.length_map]; exact hown5) (by rw [natsI_len]; exact hfv.weak hwis) hfge hkept (by
            rcases hmv with h | h
            · exact .inl h
            · exact .inr ⟨_, h, by simp⟩)
          have hs5 := hsj.kept hkept (fun b hb e => own_type hsj hown (by decide) b hb e)
          have hq5 := hkept.below hqj hqj.size (fun c h => (hown.lt c h).1)
          go_roundw
          case rel => exact ⟨v + 1, F ++ [f], D', by omega, by go_num, HF2, by rw [List.map_append]; exact hR5, hs5, hq5⟩
          case measure => simp [intOf]; omega
        rw [decide_eq_false hinj] at hsc
        have HW2 := Lib.hid (show trW t (D' ++ [(p, q)]) (succD t (p, q)) (f ++ [p]) = trW t D (u, v) [] by rw [← trW_step HT.out HX.out hinj]; exact HW.out)
        have HX2 := Lib.hid (succ_isD HT.out HX.out)
        have HI2 := Lib.hid (show (∀ y ∈ D' ++ [(p, q)], IsD t y) ∧ (D' ++ [(p, q)]).Nodup from ⟨fun z hz => by
          rcases List.mem_append.1 hz with hz | hz
          · exact HI.out.1 z hz
          · simp only [List.mem_singleton] at hz; rw [hz]; exact HX.out, by
          rw [List.nodup_append]
          exact ⟨HI.out.2, by simp, fun a ha b hb => by simp only [List.mem_singleton] at hb; subst hb; exact fun e => hinj (e ▸ ha)⟩⟩)
        have hm1 : p ∈ t.getD q [] := (HT.out.sym p q HX.out).2
        have hD2 : (D' ++ [(p, q)]).length = D.length + (f.length + 1) := by rw [List.length_append]; simp only [List.length_singleton]; omega
        have h256b := len_le_sq HT.out HI2.out.1 HI2.out.2
        have hks : KeptBut wj (wj.setCell ⟨w.heap.size, pm + q, none⟩ (.bool true)) (some w.heap.size) := ⟨rfl, rfl, rfl, by simp, fun b _ hne => Below.heap_setCell _ _ _ _ (by simp; intro e; exact hne (by rw [e]))⟩
        have hfs := hfv.kept hks (fun b hb e => by have := (hfv.lt b hb).1; have h1 : w.heap.size = b := (by simpa using e); omega)
        have hkjs := keptT hkj hks
        have hjs := hkjs.2.2.2.1
        have hqs : Below w.heap.size w (wj.setCell ⟨w.heap.size, pm + q, none⟩ (.bool true)) := hkjs.below hq hq.size (fun b e => by simp at e; omega)
        have hqlm : q < (t.map natsI).length := by rw [List.length_map]; exact hq16
        obtain ⟨q1, rq⟩ := HRC.out q hqlm
        have eq : (t.map natsI)[q] = natsI (t.getD q []) := by simp [hq16]
        rw [eq] at rq
        have hrq16 := rot_row HT.out q
        have HBH := Lib.hid (fun (W : World) (hb : Below w.heap.size w W) => l22Behind_any (rq.below hb (Nat.le_refl _)) hrq16 hm1)
        have HW3 := Lib.hid (show trW t (D' ++ [(p, q)]) (q, nextIn (t.getD q []) p) (f ++ [p]) = trW t D (u, v) [] from HW2.out)
        have HX3 := Lib.hid (show IsD t (q, nextIn (t.getD q []) p) from HX2.out)
        generalize nextIn (t.getD q []) p = z at *
        generalize rf q = rqv at *
        have HQ1 := Lib.hid q1
        clear hinj HW2 HX2 eq rq q1
        have hqil : (q : Int) < t.length := by omega
        have hrb : rb < w.heap.size := cell_lt HQ1.out
        go_wp2_with (first | (at_builtin; refine wpList_append1b elI64 rfl _ _ rfl hfs rfl (by first | rfl | simp) rfl rfl (by omega) hjs ?_; intro v' w5 hfv5 hkept hmv; have hkj5 := keptN hkjs hkept (fun b e => (hfs.lt b e).1); have hst5 := hst.kept hkept (fun b hb e => own_type hst hfs (by decide) b hb e); have hq5 : Below w.heap.size w w5 := hkj5.below hq hq.size (fun b e => by simp at e; omega); have q5 := (hq5.cell (cell_lt HQ1.out)).trans HQ1.out) | (go_at_call 61; refine (HBH.out _ hq5).mono ?_; rintro e w' ⟨rfl, rfl⟩))
        obtain ⟨fa5, fc5, rfl⟩ := hfv5.isSlice
        go_roundw
        case rel => exact ⟨D' ++ [(p, q)], q, z, f ++ [p], rfl, rfl, HW3, HX3, by rw [List.length_append, natsI_append, List.map_append]; exact hfv5, hst5, HI2, by rw [List.length_append, List.length_append]; simp; omega, hkj5⟩
        case measure => simp [lenV]; omega
set_option maxHeartbeats 4000000 in
theorem specFacesOf_any {S S' : Nat → Prop} {gv rv : Value} {g r : List (List Int)} {w : World} (hvg : SlR S w gv g) (hvr : SlR S' w rv r) :
    Calls Try.prog 19 #[.agg #[gv], .agg #[rv]] w fun e w' => ∃ u, e = .returned u ∧ SlR (fun b => b < w'.heap.size) w' u (facesF g r) ∧ Below w.heap.size w w' := by
  have hq0 : Below w.heap.size w ((w.alloc (.cells #[gv] 30)).alloc (.cells #[rv] 32)) := ((Below.refl _ _).alloc (Nat.le_refl _) _).alloc (by simp) _
  obtain ⟨ga, gc, rfl⟩ := hvg.slice
  obtain ⟨ra, rc, rfl⟩ := hvr.slice
  have hao := specAroundOk_any (hvg.below hq0 (Nat.le_refl _)) (hvr.below hq0 (Nat.le_refl _))
  by_cases ha : aroundB g r = true
  case neg =>
    have HE := Lib.hid (show facesF g r = [] by rw [facesF, if_neg ha])
    rw [Bool.not_eq_true] at ha
    rw [ha] at hao
    clear ha
    rw [HE.out]
    go_enter Try.func19, Try.ntmps19
    go_wp2_with fail
    refine hao.mono ?_
    rintro e w1 ⟨rfl, hb1⟩
    have hq1 := hq0.trans (hb1.mono hq0.size)
    go_wp2
    go_ret
    exact ⟨_, rfl, ⟨_, w1.heap.size, 0, 0, fun _ => undef, rfl, by simp, fun h => by simp at h, fun i hi => by simp at hi⟩, hq1.alloc hq1.size _⟩
  have hP := around_iff.1 ha
  have HE := Lib.hid (show facesF g r = (facesN (tOf r)).map natsI by rw [facesF, if_pos ha])
  have HSM := Lib.hid (facesF_small g r)
  rw [ha] at hao
  have HRT := Lib.hid (aro_rot hP)
  have HEQ := Lib.hid (aro_eq hP)
  have HL0 := Lib.hid (show 0 < (tOf r).length by rw [tOf_len, hP.len]; exact hP.gok.lo)
  clear ha hP
  go_enter Try.func19, Try.ntmps19
  go_wp2_with fail
  refine hao.mono ?_
  rintro e w1 ⟨rfl, hb1⟩
  have hq1 := hq0.trans (hb1.mono hq0.size)
  have c1 : w1.cell? ⟨w.heap.size + 1, 0, none⟩ = some (.slice ra r.length rc) := (hb1.cell (p := ⟨w.heap.size + 1, 0, none⟩) (by simp)).trans (by simp [go_sem])
  have htr := hvr.below hq1 (Nat.le_refl _)
  rw [show SlR S' w1 (.slice ra r.length rc) r = SlR S' w1 (.slice ra r.length rc) ((tOf r).map natsI) by rw [← HEQ.out]] at htr
  have hfa := l22Faces_any HRT.out HL0.out htr
  clear hao
  go_wp2_with fail
  refine hfa.mono ?_
  rintro e w2 ⟨fu, rfl, hfu, hb2⟩
  go_wp2
  go_ret
  refine ⟨_, rfl, ?_, hq1.trans (hb2.mono hq1.size)⟩
  rw [← HE.out] at hfu
  exact (hfu.rows HSM.out).weak fun b hb => hb.2
theorem conFacesOf {g0 : List (List Int)} {rr1 : List (List Int)} (hsm0 : SmallR g0 1048576) (hsm1 : SmallR rr1 1048576) : ∃ (r0 : List (List Int)), (∀ {S0 S1 : Nat → Prop} {v0 v1 : Value} {w : World}, SlR S0 w v0 g0 → SlR S1 w v1 rr1 → Calls Try.prog 19 #[.agg #[v0], .agg #[v1]] w fun e w' => ∃ u0, e = .returned (u0) ∧ SlR (fun b => b < w'.heap.size) w' u0 r0 ∧ Below w.heap.size w w') ∧
    (∀ {S0 S1 : Nat → Prop} {v0 v1 : Value} {w : World}, SlR S0 w v0 g0 → SlR S1 w v1 rr1 → Calls Try.prog 20 #[.agg #[v0], .agg #[v1]] w fun e w' => ∃ u0, e = .returned (u0) ∧ OwnR w' w.heap.size w'.heap.size 37 2 u0 r0 ∧ Below w.heap.size w w') ∧
    SmallR r0 1048576 := by
  exact ⟨facesF g0 rr1, fun h0 h1 => specFacesOf_any h0 h1, fun h0 h1 => implFacesOf_any h0 h1 hsm1, facesF_small g0 rr1⟩
set_option maxHeartbeats 16000000 in
theorem lawFacesOf_any {S0 S1 : Nat → Prop} (v0 : Value) (g0 : List (List Int)) (v1 : Value) (rr1 : List (List Int)) (w : World) (hv0 : SlR S0 w v0 g0) (hv1 : SlR S1 w v1 rr1) :
    Calls Try.prog 5 #[.agg #[v0], .agg #[v1]] w fun e w' => e = .returned (.bool true) ∧ Below w.heap.size w w' := by
  obtain ⟨a0, c0, rfl⟩ := hv0.slice
  obtain ⟨a1, c1, rfl⟩ := hv1.slice
  have q0 : Below w.heap.size w ((w.alloc (.cells #[.slice a0 g0.length c0] 24)).alloc (.cells #[.slice a1 rr1.length c1] 26)) := ((Below.refl _ _).alloc (Nat.le_refl _) _).alloc (by simp; try omega) _
  go_enter Try.func5, Try.ntmps5
  go_wp2_with fail
  refine (szGraph_any _ _ _ _ (hv0.below q0 (Nat.le_refl _)) (by omega) (by omega)).mono ?_
  rintro e w1 ⟨r1, rfl, hr1, hs1, hm1, hb1⟩
  have q1 := q0.trans (hb1.mono q0.size)
  have z0 := q0.size
  have z1 : w.heap.size + 2 ≤ w1.heap.size := by have := hb1.size; simp at this; omega
  have b0_1 : w1.cell? ⟨w.heap.size, 0, none⟩ = some (.slice a0 g0.length c0) := (hb1.cell (p := ⟨w.heap.size, 0, none⟩) (by simp <;> omega)).trans (by simp [go_sem])
  have b1_1 : w1.cell? ⟨w.heap.size + 1, 0, none⟩ = some (.slice a1 rr1.length c1) := (hb1.cell (p := ⟨w.heap.size + 1, 0, none⟩) (by simp <;> omega)).trans (by simp [go_sem])
  by_cases hneg1 : r1 < 0
  case pos =>
    go_wp2
    go_ret
    exact ⟨rfl, q1⟩
  have hsm0 : SmallR g0 1048576 := hm1 (by omega)
  go_wp2_with fail
  refine (szAround_any _ _ _ _ (hv1.below q1 (Nat.le_refl _)) (by omega) (by omega)).mono ?_
  rintro e w2 ⟨r2, rfl, hr2, hs2, hm2, hb2⟩
  have q2 := q1.trans (hb2.mono q1.size)
  have z2 := hb2.size
  have b0_2 : w2.cell? ⟨w.heap.size, 0, none⟩ = some (.slice a0 g0.length c0) := (hb2.cell (p := ⟨w.heap.size, 0, none⟩) (cell_lt b0_1)).trans b0_1
  have b1_2 : w2.cell? ⟨w.heap.size + 1, 0, none⟩ = some (.slice a1 rr1.length c1) := (hb2.cell (p := ⟨w.heap.size + 1, 0, none⟩) (cell_lt b1_1)).trans b1_1
  by_cases hneg2 : r2 < 0
  case pos =>
    go_wp2
    go_ret
    exact ⟨rfl, q2⟩
  have hsm1 : SmallR rr1 1048576 := smallR_mono (hm2 (by omega)) (by omega)
  obtain ⟨r0, hS, hI, hN0⟩ := conFacesOf hsm0 hsm1
  go_wp2
  refine wp_region_held_drew (S := (fun w' => w'.cell? ⟨w.heap.size, 0, none⟩ = some (.slice a0 g0.length c0) ∧ w'.cell? ⟨w.heap.size + 1, 0, none⟩ = some (.slice a1 rr1.length c1))) (by kernel_rfl) ?_ (fun hHeld => ?_)
  · first | exact ⟨‹_›, ‹_›⟩ | assumption | (simp [*, go_sem])
  refine wpAnyH_take (i := 0) (v := ?v1) (by simp only [List.getElem?_toArray, List.getElem?_cons_zero]; exact rfl) (by kernel_rfl) (by kernel_rfl) (by kernel_rfl) (by intro _ _ _ h; exact h) (Or.inl ⟨by rfl, ?y1⟩) hHeld ?_
  case y1 => (intro w hSw; (try dsimp only at hSw); go_simp; try (with_reducible rfl))
  try simp only [Act.put, List.setIfInBounds_toArray, List.set_cons_zero, List.set_cons_succ]
  refine wpAnyH_take (i := 2) (v := ?v2) (by simp only [List.getElem?_toArray, List.getElem?_cons_succ, List.getElem?_cons_zero]; exact rfl) (by kernel_rfl) (by kernel_rfl) (by kernel_rfl) (by intro _ _ _ h; exact h) (Or.inl ⟨by rfl, ?y2⟩) hHeld ?_
  case y2 => (intro w hSw; (try dsimp only at hSw); go_simp; try (with_reducible rfl))
  try simp only [Act.put, List.setIfInBounds_toArray, List.set_cons_zero, List.set_cons_succ]
  refine wpAnyH_ready (rs := [1]) (by kernel_rfl) (by simp) ?_
  refine AllReadyH.cons (by simp only [List.getElem?_toArray, List.getElem?_cons_succ, List.getElem?_cons_zero]; exact rfl) (fun K hK => ?_) AllReadyH.nil
  go_simp
  have q2d := q2.drew
  refine (toGraph_any _ _ _ (hv0.below q2d (Nat.le_refl _)) hsm0).mono ?_
  rintro e w3 ⟨x3, rfl, y3_3, hb3⟩
  replace hb3 : Below w2.heap.size w2 w3 := ⟨hb3.os, hb3.tape, hb3.output, hb3.size, hb3.block⟩
  have q3 := q2.trans (hb3.mono q2.size)
  have z3 := hb3.size
  have b0_3 : w3.cell? ⟨w.heap.size, 0, none⟩ = some (.slice a0 g0.length c0) := (hb3.cell (p := ⟨w.heap.size, 0, none⟩) (cell_lt b0_2)).trans b0_2
  have b1_3 : w3.cell? ⟨w.heap.size + 1, 0, none⟩ = some (.slice a1 rr1.length c1) := (hb3.cell (p := ⟨w.heap.size + 1, 0, none⟩) (cell_lt b1_2)).trans b1_2
  try dsimp only
  refine hK.out _ _ ?h4 (fun hHeld => ?_)
  case h4 => first | exact ⟨‹_›, ‹_›⟩ | assumption | (simp [*, go_sem])
  clear hK K
  try simp only [Act.put, List.setIfInBounds_toArray, List.set_cons_zero, List.set_cons_succ]
  refine wpAnyH_ready (rs := [3]) (by kernel_rfl) (by simp) ?_
  refine AllReadyH.cons (by simp only [List.getElem?_toArray, List.getElem?_cons_succ, List.getElem?_cons_zero]; exact rfl) (fun K hK => ?_) AllReadyH.nil
  go_simp
  refine (toAround_any _ _ _ (hv1.below q3 (Nat.le_refl _)) hsm1).mono ?_
  rintro e w4 ⟨x4, rfl, y4_4, hb4⟩
  have q4 := q3.trans (hb4.mono q3.size)
  have z4 := hb4.size
  have b0_4 : w4.cell? ⟨w.heap.size, 0, none⟩ = some (.slice a0 g0.length c0) := (hb4.cell (p := ⟨w.heap.size, 0, none⟩) (cell_lt b0_3)).trans b0_3
  have b1_4 : w4.cell? ⟨w.heap.size + 1, 0, none⟩ = some (.slice a1 rr1.length c1) := (hb4.cell (p := ⟨w.heap.size + 1, 0, none⟩) (cell_lt b1_3)).trans b1_3
  have y3_4 := y3_3.below hb4 (Nat.le_refl _)
  try dsimp only
  refine hK.out _ _ ?h6 (fun hHeld => ?_)
  case h6 => first | exact ⟨‹_›, ‹_›⟩ | assumption | (simp [*, go_sem])
  clear hK K
  try simp only [Act.put, List.setIfInBounds_toArray, List.set_cons_zero, List.set_cons_succ]
  refine wpAnyH_ready (rs := [4]) (by kernel_rfl) (by simp) ?_
  refine AllReadyH.cons (by simp only [List.getElem?_toArray, List.getElem?_cons_succ, List.getElem?_cons_zero]; exact rfl) (fun K hK => ?_) AllReadyH.nil
  go_simp
  refine (hS y3_4 y4_4).mono ?_
  rintro e w5 ⟨w0u0, rfl, w0_0_5, hb5⟩
  have q5 := q4.trans (hb5.mono q4.size)
  have z5 := hb5.size
  have b0_5 : w5.cell? ⟨w.heap.size, 0, none⟩ = some (.slice a0 g0.length c0) := (hb5.cell (p := ⟨w.heap.size, 0, none⟩) (cell_lt b0_4)).trans b0_4
  have b1_5 : w5.cell? ⟨w.heap.size + 1, 0, none⟩ = some (.slice a1 rr1.length c1) := (hb5.cell (p := ⟨w.heap.size + 1, 0, none⟩) (cell_lt b1_4)).trans b1_4
  have y3_5 := y3_4.below hb5 (Nat.le_refl _)
  have y4_5 := y4_4.below hb5 (Nat.le_refl _)
  obtain ⟨w0a0, w0c0, rfl⟩ := w0_0_5.slice
  try dsimp only
  refine hK.out _ _ ?h8 (fun hHeld => ?_)
  case h8 => first | exact ⟨‹_›, ‹_›⟩ | assumption | (simp [*, go_sem])
  clear hK K
  try simp only [Act.put, List.setIfInBounds_toArray, List.set_cons_zero, List.set_cons_succ]
  refine wpAnyH_take (i := 5) (v := ?v9) (by simp only [List.getElem?_toArray, List.getElem?_cons_succ, List.getElem?_cons_zero]; exact rfl) (by kernel_rfl) (by kernel_rfl) (by kernel_rfl) (by intro _ _ _ h; exact h) (Or.inl ⟨by rfl, ?y9⟩) hHeld ?_
  case y9 => (intro w hSw; (try dsimp only at hSw); go_simp; try (with_reducible rfl))
  try simp only [Act.put, List.setIfInBounds_toArray, List.set_cons_zero, List.set_cons_succ]
  refine wpAnyH_done (by kernel_rfl) ?_ _
  go_wp2_with fail
  refine (toGraphR_any (hv0.below q5 (Nat.le_refl _)) hsm0).mono ?_
  rintro e w6 ⟨x6, rfl, y6_6, hb6⟩
  have q6 := q5.trans (hb6.mono q5.size)
  have z6 := hb6.size
  have b0_6 : w6.cell? ⟨w.heap.size, 0, none⟩ = some (.slice a0 g0.length c0) := (hb6.cell (p := ⟨w.heap.size, 0, none⟩) (cell_lt b0_5)).trans b0_5
  have b1_6 : w6.cell? ⟨w.heap.size + 1, 0, none⟩ = some (.slice a1 rr1.length c1) := (hb6.cell (p := ⟨w.heap.size + 1, 0, none⟩) (cell_lt b1_5)).trans b1_5
  have w0_0_6 := w0_0_5.below hb6 (Nat.le_refl _)
  obtain ⟨xa6, xc6, rfl⟩ := y6_6.isSlice
  have hb7 : Below w6.heap.size w6 (w6.alloc (.cells #[.slice xa6 g0.length xc6] 30)) := (Below.refl _ _).alloc (Nat.le_refl _) _
  obtain ⟨w7, ew7⟩ : ∃ x, x = (w6.alloc (.cells #[.slice xa6 g0.length xc6] 30)) := ⟨_, rfl⟩
  rw [← ew7] at hb7
  have l7_7 : w7.cell? ⟨w6.heap.size, 0, none⟩ = some (.slice xa6 g0.length xc6) := by rw [ew7]; simp [go_sem]
  have zz7 : w7.heap.size = w6.heap.size + 1 := by rw [ew7]; simp
  have q7 := q6.trans (hb7.mono q6.size)
  have z7 := hb7.size
  have b0_7 : w7.cell? ⟨w.heap.size, 0, none⟩ = some (.slice a0 g0.length c0) := (hb7.cell (p := ⟨w.heap.size, 0, none⟩) (cell_lt b0_6)).trans b0_6
  have b1_7 : w7.cell? ⟨w.heap.size + 1, 0, none⟩ = some (.slice a1 rr1.length c1) := (hb7.cell (p := ⟨w.heap.size + 1, 0, none⟩) (cell_lt b1_6)).trans b1_6
  have w0_0_7 := w0_0_6.below hb7 (Nat.le_refl _)
  have y6_7 := y6_6.below hb7 (Nat.le_refl _)
  have b0_7e : (w6.alloc (.cells #[.slice xa6 g0.length xc6] 30)).cell? ⟨w.heap.size, 0, none⟩ = some (.slice a0 g0.length c0) := by rw [← ew7]; exact b0_7
  have b1_7e : (w6.alloc (.cells #[.slice xa6 g0.length xc6] 30)).cell? ⟨w.heap.size + 1, 0, none⟩ = some (.slice a1 rr1.length c1) := by rw [← ew7]; exact b1_7
  have l7_7e : (w6.alloc (.cells #[.slice xa6 g0.length xc6] 30)).cell? ⟨w6.heap.size, 0, none⟩ = some (.slice xa6 g0.length xc6) := by rw [← ew7]; exact l7_7
  go_wp2_with fail
  rw [← ew7]
  refine (toAroundR_any (hv1.below q7 (Nat.le_refl _)) hsm1).mono ?_
  rintro e w8 ⟨x8, rfl, y8_8, hb8⟩
  have q8 := q7.trans (hb8.mono q7.size)
  have z8 := hb8.size
  have b0_8 : w8.cell? ⟨w.heap.size, 0, none⟩ = some (.slice a0 g0.length c0) := (hb8.cell (p := ⟨w.heap.size, 0, none⟩) (cell_lt b0_7)).trans b0_7
  have b1_8 : w8.cell? ⟨w.heap.size + 1, 0, none⟩ = some (.slice a1 rr1.length c1) := (hb8.cell (p := ⟨w.heap.size + 1, 0, none⟩) (cell_lt b1_7)).trans b1_7
  have l7_8 : w8.cell? ⟨w6.heap.size, 0, none⟩ = some (.slice xa6 g0.length xc6) := (hb8.cell (p := ⟨w6.heap.size, 0, none⟩) (cell_lt l7_7)).trans l7_7
  have w0_0_8 := w0_0_7.below hb8 (Nat.le_refl _)
  have y6_8 := y6_7.below hb8 (Nat.le_refl _)
  obtain ⟨xa8, xc8, rfl⟩ := y8_8.isSlice
  have hb9 : Below w8.heap.size w8 (w8.alloc (.cells #[.slice xa8 rr1.length xc8] 32)) := (Below.refl _ _).alloc (Nat.le_refl _) _
  obtain ⟨w9, ew9⟩ : ∃ x, x = (w8.alloc (.cells #[.slice xa8 rr1.length xc8] 32)) := ⟨_, rfl⟩
  rw [← ew9] at hb9
  have l9_9 : w9.cell? ⟨w8.heap.size, 0, none⟩ = some (.slice xa8 rr1.length xc8) := by rw [ew9]; simp [go_sem]
  have zz9 : w9.heap.size = w8.heap.size + 1 := by rw [ew9]; simp
  have q9 := q8.trans (hb9.mono q8.size)
  have z9 := hb9.size
  have b0_9 : w9.cell? ⟨w.heap.size, 0, none⟩ = some (.slice a0 g0.length c0) := (hb9.cell (p := ⟨w.heap.size, 0, none⟩) (cell_lt b0_8)).trans b0_8
  have b1_9 : w9.cell? ⟨w.heap.size + 1, 0, none⟩ = some (.slice a1 rr1.length c1) := (hb9.cell (p := ⟨w.heap.size + 1, 0, none⟩) (cell_lt b1_8)).trans b1_8
  have l7_9 : w9.cell? ⟨w6.heap.size, 0, none⟩ = some (.slice xa6 g0.length xc6) := (hb9.cell (p := ⟨w6.heap.size, 0, none⟩) (cell_lt l7_8)).trans l7_8
  have w0_0_9 := w0_0_8.below hb9 (Nat.le_refl _)
  have y6_9 := y6_8.below hb9 (Nat.le_refl _)
  have y8_9 := y8_8.below hb9 (Nat.le_refl _)
  have b0_9e : (w8.alloc (.cells #[.slice xa8 rr1.length xc8] 32)).cell? ⟨w.heap.size, 0, none⟩ = some (.slice a0 g0.length c0) := by rw [← ew9]; exact b0_9
  have b1_9e : (w8.alloc (.cells #[.slice xa8 rr1.length xc8] 32)).cell? ⟨w.heap.size + 1, 0, none⟩ = some (.slice a1 rr1.length c1) := by rw [← ew9]; exact b1_9
  have l7_9e : (w8.alloc (.cells #[.slice xa8 rr1.length xc8] 32)).cell? ⟨w6.heap.size, 0, none⟩ = some (.slice xa6 g0.length xc6) := by rw [← ew9]; exact l7_9
  have l9_9e : (w8.alloc (.cells #[.slice xa8 rr1.length xc8] 32)).cell? ⟨w8.heap.size, 0, none⟩ = some (.slice xa8 rr1.length xc8) := by rw [← ew9]; exact l9_9
  go_wp2_with fail
  rw [← ew9]
  refine (hI (y6_9.rows hsm0) (y8_9.rows hsm1)).mono ?_
  rintro e w10 ⟨g0u0, rfl, g0_0_10, hb10⟩
  have q10 := q9.trans (hb10.mono q9.size)
  have z10 := hb10.size
  have b0_10 : w10.cell? ⟨w.heap.size, 0, none⟩ = some (.slice a0 g0.length c0) := (hb10.cell (p := ⟨w.heap.size, 0, none⟩) (cell_lt b0_9)).trans b0_9
  have b1_10 : w10.cell? ⟨w.heap.size + 1, 0, none⟩ = some (.slice a1 rr1.length c1) := (hb10.cell (p := ⟨w.heap.size + 1, 0, none⟩) (cell_lt b1_9)).trans b1_9
  have l7_10 : w10.cell? ⟨w6.heap.size, 0, none⟩ = some (.slice xa6 g0.length xc6) := (hb10.cell (p := ⟨w6.heap.size, 0, none⟩) (cell_lt l7_9)).trans l7_9
  have l9_10 : w10.cell? ⟨w8.heap.size, 0, none⟩ = some (.slice xa8 rr1.length xc8) := (hb10.cell (p := ⟨w8.heap.size, 0, none⟩) (cell_lt l9_9)).trans l9_9
  have w0_0_10 := w0_0_9.below hb10 (Nat.le_refl _)
  have y6_10 := y6_9.below hb10 (Nat.le_refl _)
  have y8_10 := y8_9.below hb10 (Nat.le_refl _)
  obtain ⟨g0a0, g0c0, rfl⟩ := g0_0_10.isSlice
  go_wp2_with fail
  refine (eqR_same (g0_0_10.rows hN0) w0_0_10).mono ?_
  rintro e w11 ⟨rfl, hb11⟩
  have q11 := q10.trans (hb11.mono q10.size)
  have z11 := hb11.size
  have b0_11 : w11.cell? ⟨w.heap.size, 0, none⟩ = some (.slice a0 g0.length c0) := (hb11.cell (p := ⟨w.heap.size, 0, none⟩) (cell_lt b0_10)).trans b0_10
  have b1_11 : w11.cell? ⟨w.heap.size + 1, 0, none⟩ = some (.slice a1 rr1.length c1) := (hb11.cell (p := ⟨w.heap.size + 1, 0, none⟩) (cell_lt b1_10)).trans b1_10
  have l7_11 : w11.cell? ⟨w6.heap.size, 0, none⟩ = some (.slice xa6 g0.length xc6) := (hb11.cell (p := ⟨w6.heap.size, 0, none⟩) (cell_lt l7_10)).trans l7_10
  have l9_11 : w11.cell? ⟨w8.heap.size, 0, none⟩ = some (.slice xa8 rr1.length xc8) := (hb11.cell (p := ⟨w8.heap.size, 0, none⟩) (cell_lt l9_10)).trans l9_10
  have w0_0_11 := w0_0_10.below hb11 (Nat.le_refl _)
  have y6_11 := y6_10.below hb11 (Nat.le_refl _)
  have y8_11 := y8_10.below hb11 (Nat.le_refl _)
  have g0_0_11 := g0_0_10.below hb11 (Nat.le_refl _)
  go_wp2
  refine wp_region_held_drew (S := (fun w' => w'.cell? ⟨w.heap.size, 0, none⟩ = some (.slice a0 g0.length c0) ∧ w'.cell? ⟨w.heap.size + 1, 0, none⟩ = some (.slice a1 rr1.length c1) ∧ w'.cell? ⟨w6.heap.size, 0, none⟩ = some (.slice xa6 g0.length xc6) ∧ w'.cell? ⟨w8.heap.size, 0, none⟩ = some (.slice xa8 rr1.length xc8))) (by kernel_rfl) ?_ (fun hHeld => ?_)
  · first | exact ⟨‹_›, ‹_›, ‹_›, ‹_›⟩ | assumption | (simp [*, go_sem])
  refine wpAnyH_take (i := 0) (v := ?v10) (by simp only [List.getElem?_toArray, List.getElem?_cons_zero]; exact rfl) (by kernel_rfl) (by kernel_rfl) (by kernel_rfl) (by intro _ _ _ h; exact h) (Or.inl ⟨by rfl, ?y10⟩) hHeld ?_
  case y10 => (intro w hSw; (try dsimp only at hSw); go_simp; try (with_reducible rfl))
  try simp only [Act.put, List.setIfInBounds_toArray, List.set_cons_zero, List.set_cons_succ]
  refine wpAnyH_take (i := 1) (v := ?v11) (by simp only [List.getElem?_toArray, List.getElem?_cons_succ, List.getElem?_cons_zero]; exact rfl) (by kernel_rfl) (by kernel_rfl) (by kernel_rfl) (by intro _ _ _ h; exact h) (Or.inl ⟨by rfl, ?y11⟩) hHeld ?_
  case y11 => (intro w hSw; (try dsimp only at hSw); go_simp; try (with_reducible rfl))
  try simp only [Act.put, List.setIfInBounds_toArray, List.set_cons_zero, List.set_cons_succ]
  refine wpAnyH_ready (rs := [2]) (by kernel_rfl) (by simp) ?_
  refine AllReadyH.cons (by simp only [List.getElem?_toArray, List.getElem?_cons_succ, List.getElem?_cons_zero]; exact rfl) (fun K hK => ?_) AllReadyH.nil
  go_simp
  have q11d := q11.drew
  have w0_0_11k := w0_0_11
  have w0_0_11 := w0_0_11.below ((Below.refl w11.heap.size w11).drew) (Nat.le_refl _)
  have y6_11k := y6_11
  have y6_11 := y6_11.below ((Below.refl w11.heap.size w11).drew) (Nat.le_refl _)
  have y8_11k := y8_11
  have y8_11 := y8_11.below ((Below.refl w11.heap.size w11).drew) (Nat.le_refl _)
  have g0_0_11k := g0_0_11
  have g0_0_11 := g0_0_11.below ((Below.refl w11.heap.size w11).drew) (Nat.le_refl _)
  refine (toGraph_any _ _ _ (hv0.below q11d (Nat.le_refl _)) hsm0).mono ?_
  rintro e w12 ⟨x12, rfl, y12_12, hb12⟩
  replace hb12 : Below w11.heap.size w11 w12 := ⟨hb12.os, hb12.tape, hb12.output, hb12.size, hb12.block⟩
  replace w0_0_11 := w0_0_11k
  replace y6_11 := y6_11k
  replace y8_11 := y8_11k
  replace g0_0_11 := g0_0_11k
  have q12 := q11.trans (hb12.mono q11.size)
  have z12 := hb12.size
  have b0_12 : w12.cell? ⟨w.heap.size, 0, none⟩ = some (.slice a0 g0.length c0) := (hb12.cell (p := ⟨w.heap.size, 0, none⟩) (cell_lt b0_11)).trans b0_11
  have b1_12 : w12.cell? ⟨w.heap.size + 1, 0, none⟩ = some (.slice a1 rr1.length c1) := (hb12.cell (p := ⟨w.heap.size + 1, 0, none⟩) (cell_lt b1_11)).trans b1_11
  have l7_12 : w12.cell? ⟨w6.heap.size, 0, none⟩ = some (.slice xa6 g0.length xc6) := (hb12.cell (p := ⟨w6.heap.size, 0, none⟩) (cell_lt l7_11)).trans l7_11
  have l9_12 : w12.cell? ⟨w8.heap.size, 0, none⟩ = some (.slice xa8 rr1.length xc8) := (hb12.cell (p := ⟨w8.heap.size, 0, none⟩) (cell_lt l9_11)).trans l9_11
  have w0_0_12 := w0_0_11.below hb12 (Nat.le_refl _)
  have y6_12 := y6_11.below hb12 (Nat.le_refl _)
  have y8_12 := y8_11.below hb12 (Nat.le_refl _)
  have g0_0_12 := g0_0_11.below hb12 (Nat.le_refl _)
  try dsimp only
  refine hK.out _ _ ?h13 (fun hHeld => ?_)
  case h13 => first | exact ⟨‹_›, ‹_›, ‹_›, ‹_›⟩ | assumption | (simp [*, go_sem])
  clear hK K
  try simp only [Act.put, List.setIfInBounds_toArray, List.set_cons_zero, List.set_cons_succ]
  refine wpAnyH_ready (rs := [3]) (by kernel_rfl) (by simp) ?_
  refine AllReadyH.cons (by simp only [List.getElem?_toArray, List.getElem?_cons_succ, List.getElem?_cons_zero]; exact rfl) (fun K hK => ?_) AllReadyH.nil
  go_simp
  refine (eqG_same (y6_12.rows hsm0) y12_12).mono ?_
  rintro e w13 ⟨rfl, hb13⟩
  have q13 := q12.trans (hb13.mono q12.size)
  have z13 := hb13.size
  have b0_13 : w13.cell? ⟨w.heap.size, 0, none⟩ = some (.slice a0 g0.length c0) := (hb13.cell (p := ⟨w.heap.size, 0, none⟩) (cell_lt b0_12)).trans b0_12
  have b1_13 : w13.cell? ⟨w.heap.size + 1, 0, none⟩ = some (.slice a1 rr1.length c1) := (hb13.cell (p := ⟨w.heap.size + 1, 0, none⟩) (cell_lt b1_12)).trans b1_12
  have l7_13 : w13.cell? ⟨w6.heap.size, 0, none⟩ = some (.slice xa6 g0.length xc6) := (hb13.cell (p := ⟨w6.heap.size, 0, none⟩) (cell_lt l7_12)).trans l7_12
  have l9_13 : w13.cell? ⟨w8.heap.size, 0, none⟩ = some (.slice xa8 rr1.length xc8) := (hb13.cell (p := ⟨w8.heap.size, 0, none⟩) (cell_lt l9_12)).trans l9_12
  have w0_0_13 := w0_0_12.below hb13 (Nat.le_refl _)
  have y6_13 := y6_12.below hb13 (Nat.le_refl _)
  have y8_13 := y8_12.below hb13 (Nat.le_refl _)
  have g0_0_13 := g0_0_12.below hb13 (Nat.le_refl _)
  have y12_13 := y12_12.below hb13 (Nat.le_refl _)
  try dsimp only
  refine hK.out _ _ ?h15 (fun hHeld => ?_)
  case h15 => first | exact ⟨‹_›, ‹_›, ‹_›, ‹_›⟩ | assumption | (simp [*, go_sem])
  clear hK K
  try simp only [Act.put, List.setIfInBounds_toArray, List.set_cons_zero, List.set_cons_succ]
  refine wpAnyH_take (i := 4) (v := ?v16) (by simp only [List.getElem?_toArray, List.getElem?_cons_succ, List.getElem?_cons_zero]; exact rfl) (by kernel_rfl) (by kernel_rfl) (by kernel_rfl) (by intro _ _ _ h; exact h) (Or.inl ⟨by rfl, ?y16⟩) hHeld ?_
  case y16 => (intro w hSw; (try dsimp only at hSw); go_simp; try (with_reducible rfl))
  try simp only [Act.put, List.setIfInBounds_toArray, List.set_cons_zero, List.set_cons_succ]
  refine wpAnyH_done (by kernel_rfl) ?_ _
  go_wp2
  refine wp_region_held_drew (S := (fun w' => w'.cell? ⟨w.heap.size, 0, none⟩ = some (.slice a0 g0.length c0) ∧ w'.cell? ⟨w.heap.size + 1, 0, none⟩ = some (.slice a1 rr1.length c1) ∧ w'.cell? ⟨w6.heap.size, 0, none⟩ = some (.slice xa6 g0.length xc6) ∧ w'.cell? ⟨w8.heap.size, 0, none⟩ = some (.slice xa8 rr1.length xc8))) (by kernel_rfl) ?_ (fun hHeld => ?_)
  · first | exact ⟨‹_›, ‹_›, ‹_›, ‹_›⟩ | assumption | (simp [*, go_sem])
  refine wpAnyH_take (i := 0) (v := ?v17) (by simp only [List.getElem?_toArray, List.getElem?_cons_zero]; exact rfl) (by kernel_rfl) (by kernel_rfl) (by kernel_rfl) (by intro _ _ _ h; exact h) (Or.inl ⟨by rfl, ?y17⟩) hHeld ?_
  case y17 => (intro w hSw; (try dsimp only at hSw); go_simp; try (with_reducible rfl))
  try simp only [Act.put, List.setIfInBounds_toArray, List.set_cons_zero, List.set_cons_succ]
  refine wpAnyH_take (i := 1) (v := ?v18) (by simp only [List.getElem?_toArray, List.getElem?_cons_succ, List.getElem?_cons_zero]; exact rfl) (by kernel_rfl) (by kernel_rfl) (by kernel_rfl) (by intro _ _ _ h; exact h) (Or.inl ⟨by rfl, ?y18⟩) hHeld ?_
  case y18 => (intro w hSw; (try dsimp only at hSw); go_simp; try (with_reducible rfl))
  try simp only [Act.put, List.setIfInBounds_toArray, List.set_cons_zero, List.set_cons_succ]
  refine wpAnyH_ready (rs := [2]) (by kernel_rfl) (by simp) ?_
  refine AllReadyH.cons (by simp only [List.getElem?_toArray, List.getElem?_cons_succ, List.getElem?_cons_zero]; exact rfl) (fun K hK => ?_) AllReadyH.nil
  go_simp
  have q13d := q13.drew
  have w0_0_13k := w0_0_13
  have w0_0_13 := w0_0_13.below ((Below.refl w13.heap.size w13).drew) (Nat.le_refl _)
  have y6_13k := y6_13
  have y6_13 := y6_13.below ((Below.refl w13.heap.size w13).drew) (Nat.le_refl _)
  have y8_13k := y8_13
  have y8_13 := y8_13.below ((Below.refl w13.heap.size w13).drew) (Nat.le_refl _)
  have g0_0_13k := g0_0_13
  have g0_0_13 := g0_0_13.below ((Below.refl w13.heap.size w13).drew) (Nat.le_refl _)
  refine (toAround_any _ _ _ (hv1.below q13d (Nat.le_refl _)) hsm1).mono ?_
  rintro e w14 ⟨x14, rfl, y14_14, hb14⟩
  replace hb14 : Below w13.heap.size w13 w14 := ⟨hb14.os, hb14.tape, hb14.output, hb14.size, hb14.block⟩
  replace w0_0_13 := w0_0_13k
  replace y6_13 := y6_13k
  replace y8_13 := y8_13k
  replace g0_0_13 := g0_0_13k
  have q14 := q13.trans (hb14.mono q13.size)
  have z14 := hb14.size
  have b0_14 : w14.cell? ⟨w.heap.size, 0, none⟩ = some (.slice a0 g0.length c0) := (hb14.cell (p := ⟨w.heap.size, 0, none⟩) (cell_lt b0_13)).trans b0_13
  have b1_14 : w14.cell? ⟨w.heap.size + 1, 0, none⟩ = some (.slice a1 rr1.length c1) := (hb14.cell (p := ⟨w.heap.size + 1, 0, none⟩) (cell_lt b1_13)).trans b1_13
  have l7_14 : w14.cell? ⟨w6.heap.size, 0, none⟩ = some (.slice xa6 g0.length xc6) := (hb14.cell (p := ⟨w6.heap.size, 0, none⟩) (cell_lt l7_13)).trans l7_13
  have l9_14 : w14.cell? ⟨w8.heap.size, 0, none⟩ = some (.slice xa8 rr1.length xc8) := (hb14.cell (p := ⟨w8.heap.size, 0, none⟩) (cell_lt l9_13)).trans l9_13
  have w0_0_14 := w0_0_13.below hb14 (Nat.le_refl _)
  have y6_14 := y6_13.below hb14 (Nat.le_refl _)
  have y8_14 := y8_13.below hb14 (Nat.le_refl _)
  have g0_0_14 := g0_0_13.below hb14 (Nat.le_refl _)
  try dsimp only
  refine hK.out _ _ ?h20 (fun hHeld => ?_)
  case h20 => first | exact ⟨‹_›, ‹_›, ‹_›, ‹_›⟩ | assumption | (simp [*, go_sem])
  clear hK K
  try simp only [Act.put, List.setIfInBounds_toArray, List.set_cons_zero, List.set_cons_succ]
  refine wpAnyH_ready (rs := [3]) (by kernel_rfl) (by simp) ?_
  refine AllReadyH.cons (by simp only [List.getElem?_toArray, List.getElem?_cons_succ, List.getElem?_cons_zero]; exact rfl) (fun K hK => ?_) AllReadyH.nil
  go_simp
  refine (eqAround_same (y8_14.rows hsm1) y14_14).mono ?_
  rintro e w15 ⟨rfl, hb15⟩
  have q15 := q14.trans (hb15.mono q14.size)
  have z15 := hb15.size
  have b0_15 : w15.cell? ⟨w.heap.size, 0, none⟩ = some (.slice a0 g0.length c0) := (hb15.cell (p := ⟨w.heap.size, 0, none⟩) (cell_lt b0_14)).trans b0_14
  have b1_15 : w15.cell? ⟨w.heap.size + 1, 0, none⟩ = some (.slice a1 rr1.length c1) := (hb15.cell (p := ⟨w.heap.size + 1, 0, none⟩) (cell_lt b1_14)).trans b1_14
  have l7_15 : w15.cell? ⟨w6.heap.size, 0, none⟩ = some (.slice xa6 g0.length xc6) := (hb15.cell (p := ⟨w6.heap.size, 0, none⟩) (cell_lt l7_14)).trans l7_14
  have l9_15 : w15.cell? ⟨w8.heap.size, 0, none⟩ = some (.slice xa8 rr1.length xc8) := (hb15.cell (p := ⟨w8.heap.size, 0, none⟩) (cell_lt l9_14)).trans l9_14
  have w0_0_15 := w0_0_14.below hb15 (Nat.le_refl _)
  have y6_15 := y6_14.below hb15 (Nat.le_refl _)
  have y8_15 := y8_14.below hb15 (Nat.le_refl _)
  have g0_0_15 := g0_0_14.below hb15 (Nat.le_refl _)
  have y14_15 := y14_14.below hb15 (Nat.le_refl _)
  try dsimp only
  refine hK.out _ _ ?h22 (fun hHeld => ?_)
  case h22 => first | exact ⟨‹_›, ‹_›, ‹_›, ‹_›⟩ | assumption | (simp [*, go_sem])
  clear hK K
  try simp only [Act.put, List.setIfInBounds_toArray, List.set_cons_zero, List.set_cons_succ]
  refine wpAnyH_take (i := 4) (v := ?v23) (by simp only [List.getElem?_toArray, List.getElem?_cons_succ, List.getElem?_cons_zero]; exact rfl) (by kernel_rfl) (by kernel_rfl) (by kernel_rfl) (by intro _ _ _ h; exact h) (Or.inl ⟨by rfl, ?y23⟩) hHeld ?_
  case y23 => (intro w hSw; (try dsimp only at hSw); go_simp; try (with_reducible rfl))
  try simp only [Act.put, List.setIfInBounds_toArray, List.set_cons_zero, List.set_cons_succ]
  refine wpAnyH_done (by kernel_rfl) ?_ _
  go_wp2_with fail
  refine (markG_any y6_15 hsm0 (by omega) (by omega) (by omega)).mono ?_
  rintro e w16 ⟨k16, rfl, hk16, hl16, ht16⟩
  have q16 := ht16.below q15 (by have := q15.size; omega) q15.size
  have z16 := ht16.size
  have b0_16 : w16.cell? ⟨w.heap.size, 0, none⟩ = some (.slice a0 g0.length c0) := (ht16.cell (p := ⟨w.heap.size, 0, none⟩) (cell_lt b0_15) (by have : w.heap.size < w15.heap.size := cell_lt b0_15; show w.heap.size < _ ∨ _ ≤ w.heap.size; omega)).trans b0_15
  have b1_16 : w16.cell? ⟨w.heap.size + 1, 0, none⟩ = some (.slice a1 rr1.length c1) := (ht16.cell (p := ⟨w.heap.size + 1, 0, none⟩) (cell_lt b1_15) (by have : w.heap.size + 1 < w15.heap.size := cell_lt b1_15; show w.heap.size + 1 < _ ∨ _ ≤ w.heap.size + 1; omega)).trans b1_15
  have l7_16 : w16.cell? ⟨w6.heap.size, 0, none⟩ = some (.slice xa6 g0.length xc6) := (ht16.cell (p := ⟨w6.heap.size, 0, none⟩) (cell_lt l7_15) (by have : w6.heap.size < w15.heap.size := cell_lt l7_15; show w6.heap.size < _ ∨ _ ≤ w6.heap.size; omega)).trans l7_15
  have l9_16 : w16.cell? ⟨w8.heap.size, 0, none⟩ = some (.slice xa8 rr1.length xc8) := (ht16.cell (p := ⟨w8.heap.size, 0, none⟩) (cell_lt l9_15) (by have : w8.heap.size < w15.heap.size := cell_lt l9_15; show w8.heap.size < _ ∨ _ ≤ w8.heap.size; omega)).trans l9_15
  have w0_0_16 := w0_0_15.betweenR ht16 (fun b (hb : b < w5.heap.size) => ⟨by omega, by omega⟩)
  have y8_16 := y8_15.between ht16 (by omega)
  have g0_0_16 := g0_0_15.between ht16 (by omega)
  have hkn16 : ¬ k16 < 0 := by omega
  go_wp2_with fail
  refine (markAround_any y8_16 hsm1 (by omega) (by omega) (by omega)).mono ?_
  rintro e w17 ⟨k17, rfl, hk17, hl17, ht17⟩
  have q17 := ht17.below q16 (by have := q16.size; omega) q16.size
  have z17 := ht17.size
  have b0_17 : w17.cell? ⟨w.heap.size, 0, none⟩ = some (.slice a0 g0.length c0) := (ht17.cell (p := ⟨w.heap.size, 0, none⟩) (cell_lt b0_16) (by have : w.heap.size < w16.heap.size := cell_lt b0_16; show w.heap.size < _ ∨ _ ≤ w.heap.size; omega)).trans b0_16
  have b1_17 : w17.cell? ⟨w.heap.size + 1, 0, none⟩ = some (.slice a1 rr1.length c1) := (ht17.cell (p := ⟨w.heap.size + 1, 0, none⟩) (cell_lt b1_16) (by have : w.heap.size + 1 < w16.heap.size := cell_lt b1_16; show w.heap.size + 1 < _ ∨ _ ≤ w.heap.size + 1; omega)).trans b1_16
  have l7_17 : w17.cell? ⟨w6.heap.size, 0, none⟩ = some (.slice xa6 g0.length xc6) := (ht17.cell (p := ⟨w6.heap.size, 0, none⟩) (cell_lt l7_16) (by have : w6.heap.size < w16.heap.size := cell_lt l7_16; show w6.heap.size < _ ∨ _ ≤ w6.heap.size; omega)).trans l7_16
  have l9_17 : w17.cell? ⟨w8.heap.size, 0, none⟩ = some (.slice xa8 rr1.length xc8) := (ht17.cell (p := ⟨w8.heap.size, 0, none⟩) (cell_lt l9_16) (by have : w8.heap.size < w16.heap.size := cell_lt l9_16; show w8.heap.size < _ ∨ _ ≤ w8.heap.size; omega)).trans l9_16
  have w0_0_17 := w0_0_16.betweenR ht17 (fun b (hb : b < w5.heap.size) => ⟨by omega, by omega⟩)
  have g0_0_17 := g0_0_16.between ht17 (by omega)
  have hkn17 : ¬ k17 < 0 := by omega
  go_wp2_with fail
  refine (eqR_same (g0_0_17.rows hN0) w0_0_17).mono ?_
  rintro e w18 ⟨rfl, hb18⟩
  have q18 := q17.trans (hb18.mono q17.size)
  have z18 := hb18.size
  have b0_18 : w18.cell? ⟨w.heap.size, 0, none⟩ = some (.slice a0 g0.length c0) := (hb18.cell (p := ⟨w.heap.size, 0, none⟩) (cell_lt b0_17)).trans b0_17
  have b1_18 : w18.cell? ⟨w.heap.size + 1, 0, none⟩ = some (.slice a1 rr1.length c1) := (hb18.cell (p := ⟨w.heap.size + 1, 0, none⟩) (cell_lt b1_17)).trans b1_17
  have l7_18 : w18.cell? ⟨w6.heap.size, 0, none⟩ = some (.slice xa6 g0.length xc6) := (hb18.cell (p := ⟨w6.heap.size, 0, none⟩) (cell_lt l7_17)).trans l7_17
  have l9_18 : w18.cell? ⟨w8.heap.size, 0, none⟩ = some (.slice xa8 rr1.length xc8) := (hb18.cell (p := ⟨w8.heap.size, 0, none⟩) (cell_lt l9_17)).trans l9_17
  have w0_0_18 := w0_0_17.below hb18 (Nat.le_refl _)
  have g0_0_18 := g0_0_17.below hb18 (Nat.le_refl _)
  go_wp2_with fail
  refine (markRR_any g0_0_18 hN0 (k := 1) (by omega) (by omega)).mono ?_
  rintro e w19 ⟨rfl, g0_0_19, ht19⟩
  have q19 := ht19.below q18 (by have := q18.size; omega) q18.size
  have z19 := ht19.size
  have b0_19 : w19.cell? ⟨w.heap.size, 0, none⟩ = some (.slice a0 g0.length c0) := (ht19.cell (p := ⟨w.heap.size, 0, none⟩) (cell_lt b0_18) (by have : w.heap.size < w18.heap.size := cell_lt b0_18; show w.heap.size < _ ∨ _ ≤ w.heap.size; omega)).trans b0_18
  have b1_19 : w19.cell? ⟨w.heap.size + 1, 0, none⟩ = some (.slice a1 rr1.length c1) := (ht19.cell (p := ⟨w.heap.size + 1, 0, none⟩) (cell_lt b1_18) (by have : w.heap.size + 1 < w18.heap.size := cell_lt b1_18; show w.heap.size + 1 < _ ∨ _ ≤ w.heap.size + 1; omega)).trans b1_18
  have l7_19 : w19.cell? ⟨w6.heap.size, 0, none⟩ = some (.slice xa6 g0.length xc6) := (ht19.cell (p := ⟨w6.heap.size, 0, none⟩) (cell_lt l7_18) (by have : w6.heap.size < w18.heap.size := cell_lt l7_18; show w6.heap.size < _ ∨ _ ≤ w6.heap.size; omega)).trans l7_18
  have l9_19 : w19.cell? ⟨w8.heap.size, 0, none⟩ = some (.slice xa8 rr1.length xc8) := (ht19.cell (p := ⟨w8.heap.size, 0, none⟩) (cell_lt l9_18) (by have : w8.heap.size < w18.heap.size := cell_lt l9_18; show w8.heap.size < _ ∨ _ ≤ w8.heap.size; omega)).trans l9_18
  have w0_0_19 := w0_0_18.betweenR ht19 (fun b (hb : b < w5.heap.size) => ⟨by omega, by omega⟩)
  have hmn19 : ¬ (1 + (sumL r0 : Int)) < 0 := by omega
  go_wp2_with fail
  refine (heldRR_any (g0_0_19.rows (marksR_small hN0)) hN0 (k := 1) (by omega) (by omega)).mono ?_
  rintro e w20 ⟨rfl, hb20⟩
  have q20 := q19.trans (hb20.mono q19.size)
  have z20 := hb20.size
  have b0_20 : w20.cell? ⟨w.heap.size, 0, none⟩ = some (.slice a0 g0.length c0) := (hb20.cell (p := ⟨w.heap.size, 0, none⟩) (cell_lt b0_19)).trans b0_19
  have b1_20 : w20.cell? ⟨w.heap.size + 1, 0, none⟩ = some (.slice a1 rr1.length c1) := (hb20.cell (p := ⟨w.heap.size + 1, 0, none⟩) (cell_lt b1_19)).trans b1_19
  have l7_20 : w20.cell? ⟨w6.heap.size, 0, none⟩ = some (.slice xa6 g0.length xc6) := (hb20.cell (p := ⟨w6.heap.size, 0, none⟩) (cell_lt l7_19)).trans l7_19
  have l9_20 : w20.cell? ⟨w8.heap.size, 0, none⟩ = some (.slice xa8 rr1.length xc8) := (hb20.cell (p := ⟨w8.heap.size, 0, none⟩) (cell_lt l9_19)).trans l9_19
  have w0_0_20 := w0_0_19.below hb20 (Nat.le_refl _)
  have g0_0_20 := g0_0_19.below hb20 (Nat.le_refl _)
  have hmn20 : ¬ (1 + (sumL r0 : Int)) < 0 := by omega
  go_wp2
  refine wp_region_held_drew (S := (fun w' => w'.cell? ⟨w.heap.size, 0, none⟩ = some (.slice a0 g0.length c0) ∧ w'.cell? ⟨w.heap.size + 1, 0, none⟩ = some (.slice a1 rr1.length c1) ∧ w'.cell? ⟨w6.heap.size, 0, none⟩ = some (.slice xa6 g0.length xc6) ∧ w'.cell? ⟨w8.heap.size, 0, none⟩ = some (.slice xa8 rr1.length xc8))) (by kernel_rfl) ?_ (fun hHeld => ?_)
  · first | exact ⟨‹_›, ‹_›, ‹_›, ‹_›⟩ | assumption | (simp [*, go_sem])
  refine wpAnyH_take (i := 0) (v := ?v24) (by simp only [List.getElem?_toArray, List.getElem?_cons_zero]; exact rfl) (by kernel_rfl) (by kernel_rfl) (by kernel_rfl) (by intro _ _ _ h; exact h) (Or.inl ⟨by rfl, ?y24⟩) hHeld ?_
  case y24 => (intro w hSw; (try dsimp only at hSw); go_simp; try (with_reducible rfl))
  try simp only [Act.put, List.setIfInBounds_toArray, List.set_cons_zero, List.set_cons_succ]
  refine wpAnyH_take (i := 2) (v := ?v25) (by simp only [List.getElem?_toArray, List.getElem?_cons_succ, List.getElem?_cons_zero]; exact rfl) (by kernel_rfl) (by kernel_rfl) (by kernel_rfl) (by intro _ _ _ h; exact h) (Or.inl ⟨by rfl, ?y25⟩) hHeld ?_
  case y25 => (intro w hSw; (try dsimp only at hSw); go_simp; try (with_reducible rfl))
  try simp only [Act.put, List.setIfInBounds_toArray, List.set_cons_zero, List.set_cons_succ]
  refine wpAnyH_ready (rs := [1]) (by kernel_rfl) (by simp) ?_
  refine AllReadyH.cons (by simp only [List.getElem?_toArray, List.getElem?_cons_succ, List.getElem?_cons_zero]; exact rfl) (fun K hK => ?_) AllReadyH.nil
  go_simp
  have q20d := q20.drew
  have w0_0_20k := w0_0_20
  have w0_0_20 := w0_0_20.below ((Below.refl w20.heap.size w20).drew) (Nat.le_refl _)
  have g0_0_20k := g0_0_20
  have g0_0_20 := g0_0_20.below ((Below.refl w20.heap.size w20).drew) (Nat.le_refl _)
  refine (toGraph_any _ _ _ (hv0.below q20d (Nat.le_refl _)) hsm0).mono ?_
  rintro e w21 ⟨x21, rfl, y21_21, hb21⟩
  replace hb21 : Below w20.heap.size w20 w21 := ⟨hb21.os, hb21.tape, hb21.output, hb21.size, hb21.block⟩
  replace w0_0_20 := w0_0_20k
  replace g0_0_20 := g0_0_20k
  have q21 := q20.trans (hb21.mono q20.size)
  have z21 := hb21.size
  have b0_21 : w21.cell? ⟨w.heap.size, 0, none⟩ = some (.slice a0 g0.length c0) := (hb21.cell (p := ⟨w.heap.size, 0, none⟩) (cell_lt b0_20)).trans b0_20
  have b1_21 : w21.cell? ⟨w.heap.size + 1, 0, none⟩ = some (.slice a1 rr1.length c1) := (hb21.cell (p := ⟨w.heap.size + 1, 0, none⟩) (cell_lt b1_20)).trans b1_20
  have l7_21 : w21.cell? ⟨w6.heap.size, 0, none⟩ = some (.slice xa6 g0.length xc6) := (hb21.cell (p := ⟨w6.heap.size, 0, none⟩) (cell_lt l7_20)).trans l7_20
  have l9_21 : w21.cell? ⟨w8.heap.size, 0, none⟩ = some (.slice xa8 rr1.length xc8) := (hb21.cell (p := ⟨w8.heap.size, 0, none⟩) (cell_lt l9_20)).trans l9_20
  have w0_0_21 := w0_0_20.below hb21 (Nat.le_refl _)
  have g0_0_21 := g0_0_20.below hb21 (Nat.le_refl _)
  try dsimp only
  refine hK.out _ _ ?h27 (fun hHeld => ?_)
  case h27 => first | exact ⟨‹_›, ‹_›, ‹_›, ‹_›⟩ | assumption | (simp [*, go_sem])
  clear hK K
  try simp only [Act.put, List.setIfInBounds_toArray, List.set_cons_zero, List.set_cons_succ]
  refine wpAnyH_ready (rs := [3]) (by kernel_rfl) (by simp) ?_
  refine AllReadyH.cons (by simp only [List.getElem?_toArray, List.getElem?_cons_succ, List.getElem?_cons_zero]; exact rfl) (fun K hK => ?_) AllReadyH.nil
  go_simp
  refine (toAround_any _ _ _ (hv1.below q21 (Nat.le_refl _)) hsm1).mono ?_
  rintro e w22 ⟨x22, rfl, y22_22, hb22⟩
  have q22 := q21.trans (hb22.mono q21.size)
  have z22 := hb22.size
  have b0_22 : w22.cell? ⟨w.heap.size, 0, none⟩ = some (.slice a0 g0.length c0) := (hb22.cell (p := ⟨w.heap.size, 0, none⟩) (cell_lt b0_21)).trans b0_21
  have b1_22 : w22.cell? ⟨w.heap.size + 1, 0, none⟩ = some (.slice a1 rr1.length c1) := (hb22.cell (p := ⟨w.heap.size + 1, 0, none⟩) (cell_lt b1_21)).trans b1_21
  have l7_22 : w22.cell? ⟨w6.heap.size, 0, none⟩ = some (.slice xa6 g0.length xc6) := (hb22.cell (p := ⟨w6.heap.size, 0, none⟩) (cell_lt l7_21)).trans l7_21
  have l9_22 : w22.cell? ⟨w8.heap.size, 0, none⟩ = some (.slice xa8 rr1.length xc8) := (hb22.cell (p := ⟨w8.heap.size, 0, none⟩) (cell_lt l9_21)).trans l9_21
  have w0_0_22 := w0_0_21.below hb22 (Nat.le_refl _)
  have g0_0_22 := g0_0_21.below hb22 (Nat.le_refl _)
  have y21_22 := y21_21.below hb22 (Nat.le_refl _)
  try dsimp only
  refine hK.out _ _ ?h29 (fun hHeld => ?_)
  case h29 => first | exact ⟨‹_›, ‹_›, ‹_›, ‹_›⟩ | assumption | (simp [*, go_sem])
  clear hK K
  try simp only [Act.put, List.setIfInBounds_toArray, List.set_cons_zero, List.set_cons_succ]
  refine wpAnyH_ready (rs := [4]) (by kernel_rfl) (by simp) ?_
  refine AllReadyH.cons (by simp only [List.getElem?_toArray, List.getElem?_cons_succ, List.getElem?_cons_zero]; exact rfl) (fun K hK => ?_) AllReadyH.nil
  go_simp
  refine (hI y21_22 y22_22).mono ?_
  rintro e w23 ⟨h0u0, rfl, h0_0_23, hb23⟩
  have q23 := q22.trans (hb23.mono q22.size)
  have z23 := hb23.size
  have b0_23 : w23.cell? ⟨w.heap.size, 0, none⟩ = some (.slice a0 g0.length c0) := (hb23.cell (p := ⟨w.heap.size, 0, none⟩) (cell_lt b0_22)).trans b0_22
  have b1_23 : w23.cell? ⟨w.heap.size + 1, 0, none⟩ = some (.slice a1 rr1.length c1) := (hb23.cell (p := ⟨w.heap.size + 1, 0, none⟩) (cell_lt b1_22)).trans b1_22
  have l7_23 : w23.cell? ⟨w6.heap.size, 0, none⟩ = some (.slice xa6 g0.length xc6) := (hb23.cell (p := ⟨w6.heap.size, 0, none⟩) (cell_lt l7_22)).trans l7_22
  have l9_23 : w23.cell? ⟨w8.heap.size, 0, none⟩ = some (.slice xa8 rr1.length xc8) := (hb23.cell (p := ⟨w8.heap.size, 0, none⟩) (cell_lt l9_22)).trans l9_22
  have w0_0_23 := w0_0_22.below hb23 (Nat.le_refl _)
  have g0_0_23 := g0_0_22.below hb23 (Nat.le_refl _)
  have y21_23 := y21_22.below hb23 (Nat.le_refl _)
  have y22_23 := y22_22.below hb23 (Nat.le_refl _)
  obtain ⟨h0a0, h0c0, rfl⟩ := h0_0_23.isSlice
  try dsimp only
  refine hK.out _ _ ?h31 (fun hHeld => ?_)
  case h31 => first | exact ⟨‹_›, ‹_›, ‹_›, ‹_›⟩ | assumption | (simp [*, go_sem])
  clear hK K
  try simp only [Act.put, List.setIfInBounds_toArray, List.set_cons_zero, List.set_cons_succ]
  refine wpAnyH_take (i := 5) (v := ?v32) (by simp only [List.getElem?_toArray, List.getElem?_cons_succ, List.getElem?_cons_zero]; exact rfl) (by kernel_rfl) (by kernel_rfl) (by kernel_rfl) (by intro _ _ _ h; exact h) (Or.inl ⟨by rfl, ?y32⟩) hHeld ?_
  case y32 => (intro w hSw; (try dsimp only at hSw); go_simp; try (with_reducible rfl))
  try simp only [Act.put, List.setIfInBounds_toArray, List.set_cons_zero, List.set_cons_succ]
  refine wpAnyH_done (by kernel_rfl) ?_ _
  go_wp2_with fail
  refine (eqR_same (h0_0_23.rows hN0) w0_0_23).mono ?_
  rintro e w24 ⟨rfl, hb24⟩
  have q24 := q23.trans (hb24.mono q23.size)
  have z24 := hb24.size
  have b0_24 : w24.cell? ⟨w.heap.size, 0, none⟩ = some (.slice a0 g0.length c0) := (hb24.cell (p := ⟨w.heap.size, 0, none⟩) (cell_lt b0_23)).trans b0_23
  have b1_24 : w24.cell? ⟨w.heap.size + 1, 0, none⟩ = some (.slice a1 rr1.length c1) := (hb24.cell (p := ⟨w.heap.size + 1, 0, none⟩) (cell_lt b1_23)).trans b1_23
  have l7_24 : w24.cell? ⟨w6.heap.size, 0, none⟩ = some (.slice xa6 g0.length xc6) := (hb24.cell (p := ⟨w6.heap.size, 0, none⟩) (cell_lt l7_23)).trans l7_23
  have l9_24 : w24.cell? ⟨w8.heap.size, 0, none⟩ = some (.slice xa8 rr1.length xc8) := (hb24.cell (p := ⟨w8.heap.size, 0, none⟩) (cell_lt l9_23)).trans l9_23
  have w0_0_24 := w0_0_23.below hb24 (Nat.le_refl _)
  have g0_0_24 := g0_0_23.below hb24 (Nat.le_refl _)
  have h0_0_24 := h0_0_23.below hb24 (Nat.le_refl _)
  go_wp2_with fail
  refine (heldRR_any (g0_0_24.rows (marksR_small hN0)) hN0 (k := 1) (by omega) (by omega)).mono ?_
  rintro e w25 ⟨rfl, hb25⟩
  have q25 := q24.trans (hb25.mono q24.size)
  have z25 := hb25.size
  have b0_25 : w25.cell? ⟨w.heap.size, 0, none⟩ = some (.slice a0 g0.length c0) := (hb25.cell (p := ⟨w.heap.size, 0, none⟩) (cell_lt b0_24)).trans b0_24
  have b1_25 : w25.cell? ⟨w.heap.size + 1, 0, none⟩ = some (.slice a1 rr1.length c1) := (hb25.cell (p := ⟨w.heap.size + 1, 0, none⟩) (cell_lt b1_24)).trans b1_24
  have l7_25 : w25.cell? ⟨w6.heap.size, 0, none⟩ = some (.slice xa6 g0.length xc6) := (hb25.cell (p := ⟨w6.heap.size, 0, none⟩) (cell_lt l7_24)).trans l7_24
  have l9_25 : w25.cell? ⟨w8.heap.size, 0, none⟩ = some (.slice xa8 rr1.length xc8) := (hb25.cell (p := ⟨w8.heap.size, 0, none⟩) (cell_lt l9_24)).trans l9_24
  have w0_0_25 := w0_0_24.below hb25 (Nat.le_refl _)
  have g0_0_25 := g0_0_24.below hb25 (Nat.le_refl _)
  have h0_0_25 := h0_0_24.below hb25 (Nat.le_refl _)
  have hmn25 : ¬ (1 + (sumL r0 : Int)) < 0 := by omega
  go_wp2
  go_ret
  exact ⟨rfl, q25⟩
end Go.Proofs.Ytbpjbjeglcphcaa
