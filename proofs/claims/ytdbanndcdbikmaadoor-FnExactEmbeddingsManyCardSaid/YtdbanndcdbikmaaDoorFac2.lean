/- FacesOf of the program. -/
import Derived.Test.YtdbanndcdbikmaaDoorDistM
import Derived.Test.YtdbanndcdbikmaaDoorVals
import Derived.Test.YtdbanndcdbikmaaDoorLoopL
import Derived.Test.YtdbanndcdbikmaaDoorMark4
import Derived.Test.YtdbanndcdbikmaaDoorFac
namespace Go.Proofs.YtdbanndcdbikmaaDoor
open Go.RowKit
/-- The first k vertices turn rightly. -/
def AroTo (g r : List (List Int)) (k : Nat) : Prop := ∀ v, v < k → TurnOk (g.getD v []) (r.getD v [])
theorem AroTo.zero (g r : List (List Int)) : AroTo g r 0 := fun _ h => absurd h (Nat.not_lt_zero _)
theorem AroTo.next {g r : List (List Int)} {k : Nat} (h : AroTo g r k) (hk : TurnOk (g.getD k []) (r.getD k [])) : AroTo g r (k + 1) := fun v hv => by
  by_cases e : v = k
  · rw [e]; exact hk
  · exact h v (by omega)
theorem rise_pw {row : List Int} {n : Int} (h : Rise row n) : row.Pairwise (· < ·) := by
  rw [List.pairwise_iff_getElem]
  intro i j hi hj hij
  exact (h j hj hj).2.2 i hij
theorem msort (t : List Int) : (t.mergeSort (fun x y => decide (x ≤ y))).Pairwise (· ≤ ·) ∧ (t.mergeSort (fun x y => decide (x ≤ y))).Perm t := by
  refine ⟨?_, List.mergeSort_perm _ _⟩
  have := List.pairwise_mergeSort (le := fun x y : Int => decide (x ≤ y)) (fun a b c h1 h2 => by simp at *; omega) (fun a b => by simp; omega) t
  exact this.imp fun h => of_decide_eq_true h
/-- Right so far. -/
def TurnTo (row t : List Int) (k : Nat) : Prop := ∀ i, i < k → t.getD i 0 ∈ row ∧ t.getD i 0 ∉ t.take i
theorem TurnTo.next {row t : List Int} {k : Nat} (h : TurnTo row t k) (hk : t.getD k 0 ∈ row ∧ t.getD k 0 ∉ t.take k) : TurnTo row t (k + 1) := fun v hv => by
  by_cases e : v = k
  · rw [e]; exact hk
  · exact h v (by omega)
/-- A right rotation system, by its numbers. -/
def tOf (r : List (List Int)) : List (List Nat) := r.map fun l => l.map Int.toNat
theorem tOf_len (r : List (List Int)) : (tOf r).length = r.length := by simp [tOf]
theorem tOf_get (r : List (List Int)) (u : Nat) : (tOf r).getD u [] = (r.getD u []).map Int.toNat := by
  unfold tOf
  by_cases h : u < r.length
  · simp [h]
  · simp [h]
theorem turn_perm {row t : List Int} (h : TurnOk row t) : t.Nodup ∧ ∀ x, x ∈ t ↔ x ∈ row := by
  have hn : t.Nodup := nodup_takeA.2 fun i hi => (h.all i hi).2
  have h3 : ∀ x ∈ t, x ∈ row := fun x hx => by
    obtain ⟨i, hi, rfl⟩ := List.getElem_of_mem hx
    have := (h.all i hi).1
    simpa [hi] using this
  refine ⟨hn, fun x => ⟨h3 x, fun hx => Classical.byContradiction fun hno => ?_⟩⟩
  have := nodup_lenA (l := t) (E := row.erase x) hn (fun y hy => by
    rw [List.mem_erase_of_ne (fun e => hno (by rw [← e]; exact hy))]
    exact h3 y hy)
  rw [List.length_erase_of_mem hx] at this
  have := List.length_pos_of_mem hx
  have := h.len
  omega
theorem aro_row {g r : List (List Int)} (h : AroundP g r) (u : Nat) : ∀ x, x ∈ r.getD u [] ↔ x ∈ g.getD u [] := fun x => by
  by_cases hu : u < g.length
  · exact (turn_perm (h.turn u hu)).2 x
  · have e1 : g.getD u [] = [] := by simp [show g.length ≤ u by omega]
    have e2 : r.getD u [] = [] := by have := h.len; simp [show r.length ≤ u by omega]
    rw [e1, e2]
theorem aro_ge {g r : List (List Int)} (h : AroundP g r) {u : Nat} {x : Int} (hx : x ∈ r.getD u []) : 0 ≤ x ∧ x < g.length ∧ u < g.length := by
  have h1 := (aro_row h u x).1 hx
  have hu : u < g.length := by
    apply Classical.byContradiction
    intro hu
    have e1 : g.getD u [] = [] := by simp [show g.length ≤ u by omega]
    rw [e1] at h1; cases h1
  have e : g.getD u [] = g[u] := by simp [hu]
  rw [e] at h1
  have := h.gok.ge hu x h1
  exact ⟨this.1, this.2, hu⟩
theorem aro_mem {g r : List (List Int)} (h : AroundP g r) (u v : Nat) : v ∈ (tOf r).getD u [] ↔ (v : Int) ∈ g.getD u [] := by
  rw [tOf_get, List.mem_map]
  constructor
  · rintro ⟨x, hx, rfl⟩
    have := aro_ge h hx
    rw [Int.toNat_of_nonneg this.1]
    exact (aro_row h u x).1 hx
  · intro hv
    exact ⟨(v : Int), (aro_row h u _).2 hv, by simp⟩
theorem aro_eq {g r : List (List Int)} (h : AroundP g r) : r = (tOf r).map natsI := by
  apply List.ext_getElem (by simp [tOf])
  intro i h1 h2
  simp only [tOf, List.getElem_map]
  have e : r.getD i [] = r[i] := by simp [h1]
  unfold natsI
  rw [List.map_map]
  have hid : List.map ((fun n : Nat => (n : Int)) ∘ Int.toNat) r[i] = List.map id r[i] := List.map_congr_left fun x hx => by
    have := aro_ge h (u := i) (by rw [e]; exact hx)
    simp; omega
  rw [hid, List.map_id]
theorem aro_symm {g : List (List Int)} (hg : GOk g) {u v : Nat} (h : (v : Int) ∈ g.getD u []) : v < g.length ∧ (u : Int) ∈ g.getD v [] := by
  have hu : u < g.length := by
    apply Classical.byContradiction
    intro hu
    have e1 : g.getD u [] = [] := by simp [show g.length ≤ u by omega]
    rw [e1] at h; cases h
  have e : g.getD u [] = g[u] := by simp [hu]
  rw [e] at h
  have h1 := hg.ge hu _ h
  have h2 := hg.symm u hu _ h
  exact ⟨by omega, by simpa using h2⟩
theorem aro_rot {g r : List (List Int)} (h : AroundP g r) : RotN (tOf r) := by
  refine ⟨by rw [tOf_len, h.len]; exact h.gok.hi, fun u => ?_, fun u v hv => ?_⟩
  · rw [tOf_get]
    by_cases hu : u < g.length
    · have hn := (turn_perm (h.turn u hu)).1
      rw [List.Nodup, List.pairwise_map]
      refine List.Pairwise.imp_of_mem ?_ hn
      intro a b ha hb hab e
      have h1 := aro_ge h ha
      have h2 := aro_ge h hb
      omega
    · have e2 : r.getD u [] = [] := by have := h.len; simp [show r.length ≤ u by omega]
      rw [e2]; simp
  · have h1 := (aro_mem h u v).1 hv
    have h2 := aro_symm h.gok h1
    exact ⟨by rw [tOf_len, h.len]; exact h2.1, (aro_mem h v u).2 h2.2⟩
noncomputable def facesF (g r : List (List Int)) : List (List Int) := if aroundB g r = true then (facesN (tOf r)).map natsI else []
theorem facesN_small {t : List (List Nat)} (h : RotN t) : (facesN t).length ≤ 256 ∧ ∀ f ∈ facesN t, f.length ≤ 256 ∧ ∀ v ∈ f, v < t.length := by
  refine ⟨?_, fun f hf => ?_⟩
  · have := facesAt_le h (u := t.length) (k := 0) (Nat.le_refl _)
    rw [dartsAt_all] at this
    exact this
  · exact (facesTo_inv h (L := dartsN t) (fun x hx => (mem_dartsN h).1 hx)).small f hf
theorem facesF_small (g r : List (List Int)) : SmallR (facesF g r) 1048576 := by
  unfold facesF
  split
  · rename_i hc
    have hr := aro_rot (around_iff.1 hc)
    obtain ⟨h1, h2⟩ := facesN_small hr
    refine ⟨by rw [List.length_map]; omega, fun i hi _ => ?_⟩
    rw [List.getElem_map, natsI_len]
    have := (h2 _ (List.getElem_mem (by simpa using hi))).1
    omega
  · exact ⟨by simp, fun i hi => by simp at hi⟩
/-- The marks of the sides that were met. -/
def seenV (n : Nat) (D : List Dart) : Nat → Value := fun i => .bool (decide ((i / n, i % n) ∈ D))
def seenL (n : Nat) (D : List Dart) : List Value := (List.range (n * n)).map (seenV n D)
theorem seenL_len (n : Nat) (D : List Dart) : (seenL n D).length = n * n := by simp [seenL]
theorem idx_split {n p q : Nat} (hq : q < n) : (p * n + q) / n = p ∧ (p * n + q) % n = q := by
  have hn : 0 < n := by omega
  constructor
  · rw [Nat.mul_comm, Nat.mul_add_div hn, Nat.div_eq_of_lt hq]; omega
  · rw [Nat.mul_comm, Nat.mul_add_mod, Nat.mod_eq_of_lt hq]
theorem idx_lt {n p q : Nat} (hp : p < n) (hq : q < n) : p * n + q < n * n := by
  have : (p + 1) * n ≤ n * n := Nat.mul_le_mul_right n hp
  rw [Nat.succ_mul] at this
  omega
theorem seenL_get {n p q : Nat} {D : List Dart} (hp : p < n) (hq : q < n) : (seenL n D)[p * n + q]? = some (.bool (decide ((p, q) ∈ D))) := by
  have h := idx_lt hp hq
  obtain ⟨h1, h2⟩ := idx_split (p := p) hq
  simp [seenL, seenV, h, h1, h2]
theorem seenL_set {n p q : Nat} {D : List Dart} (hp : p < n) (hq : q < n) : (seenL n D).set (p * n + q) (.bool true) = seenL n (D ++ [(p, q)]) := by
  apply List.ext_getElem (by simp [seenL])
  intro i h1 h2
  rw [List.getElem_set]
  have hi : i < n * n := by simpa [seenL] using h2
  simp only [seenL, seenV, List.getElem_map, List.getElem_range]
  by_cases e : p * n + q = i
  · subst e
    obtain ⟨h1, h2⟩ := idx_split (p := p) hq
    rw [if_pos rfl, h1, h2]
    simp
  · rw [if_neg e]
    have hne : (i / n, i % n) ≠ (p, q) := fun h => by
      simp only [Prod.mk.injEq] at h
      have := Nat.div_add_mod i n
      rw [h.1, h.2, Nat.mul_comm] at this
      exact e this
    congr 1
    rw [decide_eq_decide]
    simp only [List.mem_append, List.mem_singleton, hne, or_false]
theorem seenL_start (n : Nat) : List.replicate (n * n) (Value.bool false) = seenL n [] := by
  unfold seenL seenV
  apply List.ext_getElem (by simp)
  intro i h1 h2
  simp
theorem OwnR.keptOther {w w' : World} {B C B' sb n : Nat} {cap : Nat} {EO EI E : TypeId} {u : Value} {g : List (List Int)} {xs : List Value} (h : OwnR w B C EO EI u g) (hs : Own w B' E 1 (.slice (some ⟨sb, 0, none⟩) n cap) n xs) (h1 : EO ≠ E) (h2 : EI ≠ E) (hk : KeptBut w w' (some sb)) : OwnR w' B C EO EI u g := by
  obtain ⟨vs, a1, a2, a3, hap, a4⟩ := h
  exact ⟨vs, a1, a2.kept hk (fun b hb e => own_type a2 hs h1 b hb (by rw [← e]; rfl)), a3, hap, fun i hi hi2 => ⟨(a4 i hi hi2).1.kept hk (fun b hb e => own_type (a4 i hi hi2).1 hs h2 b hb (by rw [← e]; rfl)), (a4 i hi hi2).2⟩⟩
theorem elMarksF : Elem Tryd.prog 90 4 1 1 (.bool false) := ⟨Tryd.underlying90, by kernel_rfl, rfl, by omega, by omega⟩
set_option maxHeartbeats 2000000 in
theorem l22Behind_any {S : Nat → Prop} {v : Value} {l : List Nat} {u : Nat} {w : World} (hv : SlI S w .i64 v (natsI l)) (h16 : l.length ≤ 16) (hu : u ∈ l) :
    Calls Tryd.prog 62 #[v, .int .i64 (u : Int)] w fun e w' => e = .returned (.int .i64 (nextIn l u : Int)) ∧ w = w' := by
  have hi := List.idxOf_lt_length_of_mem hu
  have HN := Lib.hid (show nextIn l u = l.getD ((l.idxOf u + 1) % l.length) 0 from rfl)
  obtain ⟨la, lb, lo, lc, rfl, hll, hla, hlc⟩ := hv
  rw [natsI_len] at *
  have hc : ∀ k (hk : k < l.length), w.cell? ⟨lb, lo + k, none⟩ = some (.int .i64 (l[k] : Int)) := fun k hk => by
    have := hlc k (by rw [natsI_len]; exact hk)
    rw [natsI_get] at this; exact this
  obtain ⟨rfl, -⟩ := hla (by omega)
  have HC := Lib.hid hc
  clear hlc hc hla
  go_enter Tryd.func62, Tryd.ntmps62
  go_wp2
  go_loop [5] (fun i => ∃ k : Nat, k ≤ l.idxOf u ∧ i = .int .i64 k) (fun i => l.length - (intOf i).toNat)
  case atStart => exact ⟨0, Nat.zero_le _, rfl⟩
  case round =>
    obtain ⟨k, hk, rfl⟩ := hrel
    have hkl : k < l.length := by omega
    have hck := HC.out k hkl
    by_cases he : l[k] = u
    · have hkx : k = l.idxOf u := by
        have h1 : l.idxOf u ≤ k := by
          apply Nat.le_of_not_lt
          intro hlt
          have := List.not_of_lt_findIdx (xs := l) (p := (· == u)) (i := k) hlt
          simp [he] at this
        omega
      have hb : ((l[k] : Int) == (u : Int)) = true := by rw [beq_iff_eq, he]
      have hm : (k + 1) % l.length < l.length := Nat.mod_lt _ (by omega)
      have hcm := HC.out _ hm
      have hz : l[(k + 1) % l.length] = nextIn l u := by rw [HN.out, ← hkx]; simp [hm]
      rw [hz] at hcm
      have hmod : Int.tmod ((k : Int) + 1) (l.length : Int) = (((k + 1) % l.length : Nat) : Int) := by
        rw [show ((k : Int) + 1) = ((k + 1 : Nat) : Int) by omega]
        rfl
      have hl0 : l.length ≠ 0 := by omega
      generalize (k + 1) % l.length = m at *
      generalize hze : nextIn l u = z at *
      have HZ := Lib.hid hze
      clear hze
      generalize l[k] = y at *
      have hmi : (m : Int) < l.length := by omega
      clear hz hkx he hi hk
      go_wp2
      go_ret
      exact ⟨ret_int (by rw [HZ.out]), rfl⟩
    · have hb : ((l[k] : Int) == (u : Int)) = false := by rw [beq_eq_false_iff_ne]; omega
      have hb2 : (l[k] == u) = false := by rw [beq_eq_false_iff_ne]; exact he
      have hk2 : k + 1 ≤ l.idxOf u := by
        apply Nat.lt_of_le_of_ne hk
        intro e
        subst e
        exact he (List.getElem_idxOf hi)
      generalize l[k] = y at *
      clear he
      go_wp2
      go_round
      case rel => exact ⟨k + 1, hk2, by go_num⟩
      case measure => simp [intOf]; omega
set_option maxRecDepth 100000 in
set_option maxHeartbeats 16000000 in
theorem l22Faces_any {S : Nat → Prop} {tv : Value} {t : List (List Nat)} {w : World} (ht : RotN t) (h0 : 0 < t.length) (hv : SlR S w tv (t.map natsI)) :
    Calls Tryd.prog 48 #[tv] w fun e w' => ∃ u, e = .returned u ∧ OwnR w' w.heap.size w'.heap.size 46 2 u ((facesN t).map natsI) ∧ Below w.heap.size w w' := by
  obtain ⟨ra, rb, roff, rcap, rf, rfl, hrl, hra, hrc⟩ := hv
  rw [List.length_map] at *
  have h16 := ht.le
  have hnn : (t.length : Int) * (t.length : Int) = ((t.length * t.length : Nat) : Int) := (Int.natCast_mul _ _).symm
  have hN256 : t.length * t.length ≤ 256 := by have := Nat.mul_le_mul h16 h16; omega
  have hNl := fun p q (hp : p < t.length) (hq : q < t.length) => idx_lt (n := t.length) hp hq
  have hmk := run_make_row' (P := Tryd.prog) 90 4 (.bool false) 1 elMarksF.ht elMarksF.hi rfl .i64 .i64 (t.length * t.length) (by omega) (by omega)
  have HNL := Lib.hid hNl
  have hsn0 := Own.made w w.heap.size 4 (.bool false) (t.length * t.length) (Nat.le_refl _) (by omega)
  rw [seenL_start] at hsn0
  have hSGET := fun D p q (hp : p < t.length) (hq : q < t.length) => seenL_get (n := t.length) (D := D) hp hq
  have hSSET := fun D p q (hp : p < t.length) (hq : q < t.length) => seenL_set (n := t.length) (D := D) hp hq
  have HSGET := Lib.hid hSGET
  have HSSET := Lib.hid hSSET
  clear hNl hSGET hSSET
  generalize t.length * t.length = N at *
  have hq0 : Below w.heap.size w ((w.alloc (.cells (madeCells #[Value.bool false] N) 4)).alloc (.cells #[] 46)) := ((Below.refl _ _).alloc (Nat.le_refl _) _).alloc (by simp) _
  have hsn1 : Own ((w.alloc (.cells (madeCells #[Value.bool false] N) 4)).alloc (.cells #[] 46)) w.heap.size 4 1 (.slice (some ⟨w.heap.size, 0, none⟩) N N) N (seenL t.length []) := hsn0.alloc _
  have hR0 : OwnR ((w.alloc (.cells (madeCells #[Value.bool false] N) 4)).alloc (.cells #[] 46)) w.heap.size ((w.alloc (.cells (madeCells #[Value.bool false] N) 4)).alloc (.cells #[] 46)).heap.size 46 2 (.slice (some ⟨w.heap.size + 1, 0, none⟩) 0 0) [] := by
    refine ⟨[], rfl, ?_, fun b hb => by simp [Value.ownBlock] at hb; simp; omega, ApartL.nil, fun i hi => by simp at hi⟩
    have := World.ownsRow_lit (base := w.heap.size) (e := 46) (size := 1) (w.alloc (.cells (madeCells #[Value.bool false] N) 4)) #[] 0 (by simp) (by unfold maxLen; omega) rfl
    simpa [Own] using this
  have HRC := Lib.hid hrc
  have HT := Lib.hid ht
  clear hrc hsn0
  go_enter Tryd.func48, Tryd.ntmps48
  go_wp2
  clear hmk
  go_loopw [6, 5] (fun iv ov wr => ∃ (u : Nat) (F : List (List Nat)) (D : List Dart), u ≤ t.length ∧ iv = .int .i64 u ∧ RowKit.Hid (facesTo t (dartsTo t u 0) = (F, D)) ∧ OwnR wr w.heap.size wr.heap.size 46 2 ov (F.map natsI) ∧ Own wr w.heap.size 4 1 (.slice (some ⟨w.heap.size, 0, none⟩) N N) N (seenL t.length D) ∧ Below w.heap.size w wr) (fun iv _ _ => t.length - (intOf iv).toNat)
  case atStart => exact ⟨0, [], [], Nat.zero_le _, rfl, Lib.hid (by rw [dartsTo_zero]; rfl), hR0, hsn1, hq0⟩
  case round =>
    clear hR0 hsn1 hq0
    obtain ⟨u, F, D, hu, rfl, HF, hR, hsn, hq⟩ := hrel
    obtain ⟨wi, rfl⟩ : ∃ wx : World, wx = wr := ⟨_, rfl⟩
    by_cases hlt : u < t.length
    case neg =>
      obtain rfl : u = t.length := by omega
      have HE := Lib.hid (show F = facesN t by unfold facesN; rw [← dartsTo_all, HF.out])
      go_wp2
      go_ret
      exact ⟨_, rfl, by rw [← HE.out]; exact hR, hq⟩
    have hul : u < (t.map natsI).length := by rw [List.length_map]; exact hlt
    obtain ⟨k1, r1⟩ := HRC.out u hul
    have e : (t.map natsI)[u] = natsI (t.getD u []) := by simp [hlt]
    rw [e] at r1
    obtain ⟨row, hrowe⟩ : ∃ row, row = t.getD u [] := ⟨_, rfl⟩
    rw [← hrowe] at r1
    obtain ⟨rowa, rowc, hre⟩ := r1.slice
    rw [hre] at k1 r1
    have HROWE := Lib.hid hrowe
    have hlti : (u : Int) < t.length := by omega
    obtain ⟨rfl, -⟩ := hra (by omega)
    have hmul : (u : Int) * (t.length : Int) = ((u * t.length : Nat) : Int) := (Int.natCast_mul _ _).symm
    have HMV := Lib.hid (fun v : Nat => show (((v : Int) ∈ natsI row) ↔ v ∈ t.getD u []) by
      rw [HROWE.out]
      unfold natsI
      rw [List.mem_map]
      exact ⟨fun ⟨x, hx, e⟩ => by have : x = v := by omega
                                  rw [← this]; exact hx, fun h => ⟨v, h, rfl⟩⟩)
    have hul2 : u * t.length ≤ 256 := by have := Nat.mul_le_mul (Nat.le_of_lt hlt) (Nat.le_refl t.length); have := Nat.mul_le_mul h16 h16; omega
    have HUM := Lib.hid (show u * t.length = u * t.length from rfl)
    obtain ⟨um, hum⟩ : ∃ um, um = u * t.length := ⟨_, rfl⟩
    rw [← hum] at hmul hul2
    have HUM2 := Lib.hid hum
    clear e hre hum HUM hrowe hul
    go_wp2
    go_loopw [7, 5] (fun iv ov wr => ∃ (v : Nat) (F : List (List Nat)) (D : List Dart), v ≤ t.length ∧ iv = .int .i64 v ∧ RowKit.Hid (facesTo t (dartsTo t u v) = (F, D)) ∧ OwnR wr w.heap.size wr.heap.size 46 2 ov (F.map natsI) ∧ Own wr w.heap.size 4 1 (.slice (some ⟨w.heap.size, 0, none⟩) N N) N (seenL t.length D) ∧ Below w.heap.size w wr) (fun iv _ _ => t.length - (intOf iv).toNat)
    case atStart => exact ⟨0, F, D, Nat.zero_le _, rfl, HF, hR, hsn, hq⟩
    case round =>
      clear hR hsn hq HF F D
      obtain ⟨v, F, D, hvl, rfl, HF, hR, hsn, hq⟩ := hrel
      obtain ⟨wi, rfl⟩ : ∃ wx : World, wx = wr := ⟨_, rfl⟩
      by_cases hvt : v < t.length
      case neg =>
        obtain rfl : v = t.length := by omega
        have HF2 := Lib.hid (show facesTo t (dartsTo t (u + 1) 0) = (F, D) by rw [dartsTo_row]; exact HF.out)
        go_wp2
        go_roundw
        case rel => exact ⟨u + 1, F, D, by omega, by go_num, HF2, hR, hsn, hq⟩
        case measure => simp [intOf]; omega
      have k1 := (hq.cell (cell_lt k1)).trans k1
      have r1 := r1.below hq (Nat.le_refl _)
      have hha := l1Has_any _ _ (v : Int) _ r1
      have hNu := HNL.out u v hlt hvt
      rw [← HUM2.out] at hNu
      have hsc : wi.cell? ⟨w.heap.size, um + v, none⟩ = some (.bool (decide ((u, v) ∈ D))) := by
        have := World.ownsRow.cellAt hsn (um + v) (by omega)
        rw [this, HUM2.out]
        exact HSGET.out D u v hlt hvt
      by_cases hm : v ∈ t.getD u []
      case neg =>
        rw [decide_eq_false (fun h => hm ((HMV.out v).1 h))] at hha
        have HF2 := Lib.hid (show facesTo t (dartsTo t u (v + 1)) = (F, D) by rw [dartsTo_no hm]; exact HF.out)
        clear hm
        go_wp2_with (go_at_call 31; refine hha.mono ?_; rintro e w' ⟨rfl, rfl⟩)
        go_roundw
        case rel => exact ⟨v + 1, F, D, by omega, by go_num, HF2, hR, hsn, hq⟩
        case measure => simp [intOf]; omega
      rw [decide_eq_true ((HMV.out v).2 hm)] at hha
      have HYES := Lib.hid (dartsTo_yes hm)
      have hxD : IsD t (u, v) := hm
      clear hm
      by_cases hin : (u, v) ∈ D
      case pos =>
        rw [decide_eq_true hin] at hsc
        have HF2 := Lib.hid (show facesTo t (dartsTo t u (v + 1)) = (F, D) by rw [HYES.out, facesTo_snoc, HF.out, fstep, if_pos hin])
        go_wp2_with (go_at_call 31; refine hha.mono ?_; rintro e w' ⟨rfl, rfl⟩)
        go_roundw
        case rel => exact ⟨v + 1, F, D, by omega, by go_num, HF2, hR, hsn, hq⟩
        case measure => simp [intOf]; omega
      rw [decide_eq_false hin] at hsc
      have hFI : FInv t F D := by
        have := facesTo_inv HT.out (dartsTo_isD HT.out (u := u) (v := v))
        rw [HF.out] at this; exact this
      have hFl : F.length ≤ 256 + v := by
        have := facesTo_le HT.out (u := u) (v := v) hu
        rw [HF.out] at this; exact this
      have HFI := Lib.hid hFI
      have hb00 : Below wi.heap.size wi (wi.alloc (.cells #[] 2)) := (Below.refl _ _).alloc (Nat.le_refl _) _
      have hsn00 := hsn.below hb00 (Nat.le_refl _)
      have hf00 : Own (wi.alloc (.cells #[] 2)) wi.heap.size 2 1 (.slice (some ⟨wi.heap.size, 0, none⟩) 0 0) ([] : List Nat).length ((natsI []).map (.int .i64)) := by
        have := World.ownsRow_lit (base := wi.heap.size) (e := 2) (size := 1) wi #[] 0 (Nat.le_refl _) (by unfold maxLen; omega) rfl
        simpa [Own, natsI] using this
      have hsbl : w.heap.size < wi.heap.size := (hsn.lt _ rfl).2
      clear hFI
      go_wp2_with (go_at_call 31; refine hha.mono ?_; rintro e w' ⟨rfl, rfl⟩)
      go_loopw [8, 9, 10] (fun fv pv qv wr => ∃ (D' : List Dart) (p q : Nat) (f : List Nat), pv = .int .i64 p ∧ qv = .int .i64 q ∧ RowKit.Hid (trW t D' (p, q) f = trW t D (u, v) []) ∧ RowKit.Hid (IsD t (p, q)) ∧ Own wr wi.heap.size 2 1 fv f.length ((natsI f).map (.int .i64)) ∧ Own wr w.heap.size 4 1 (.slice (some ⟨w.heap.size, 0, none⟩) N N) N (seenL t.length D') ∧ RowKit.Hid ((∀ y ∈ D', IsD t y) ∧ D'.Nodup) ∧ D'.length = D.length + f.length ∧ KeptBut wi wr (some w.heap.size)) (fun fv _ _ _ => 257 - lenV fv)
      case atStart => exact ⟨D, u, v, [], rfl, rfl, Lib.hid rfl, Lib.hid hxD, hf00, hsn00, Lib.hid ⟨HFI.out.all, HFI.out.nd⟩, by simp, keptBF hb00⟩
      case round =>
        clear hf00 hsn00 hb00 hsc
        obtain ⟨D', p, q, f, rfl, rfl, HW, HX, hfv, hsj, HI, hDl, hkj⟩ := hrel
        obtain ⟨wj, rfl⟩ : ∃ wx : World, wx = wr := ⟨_, rfl⟩
        have hpq := HX.out.lt HT.out
        have h256 := len_le_sq HT.out HI.out.1 HI.out.2
        have hp16 : p < t.length := hpq.1
        have hq16 : q < t.length := hpq.2
        have hmp : (p : Int) * (t.length : Int) = ((p * t.length : Nat) : Int) := (Int.natCast_mul _ _).symm
        have hNp := HNL.out p q hp16 hq16
        obtain ⟨pm, hpm⟩ : ∃ pm, pm = p * t.length := ⟨_, rfl⟩
        have hsc : wj.cell? ⟨w.heap.size, pm + q, none⟩ = some (.bool (decide ((p, q) ∈ D'))) := by
          have := World.ownsRow.cellAt hsj (pm + q) (by rw [hpm]; omega)
          rw [this, hpm]
          exact HSGET.out D' p q hp16 hq16
        have hsf := World.ownsRow.frozenAt hsj (pm + q)
        have hst := (World.ownsRow.stored hsj (pm + q) (.bool true)).1
        rw [hpm, HSSET.out D' p q hp16 hq16, ← hpm] at hst
        have hst : Own (wj.setCell ⟨w.heap.size, pm + q, none⟩ (.bool true)) w.heap.size 4 1 (.slice (some ⟨w.heap.size, 0, none⟩) N N) N (seenL t.length (D' ++ [(p, q)])) := hst
        rw [← hpm] at hmp hNp
        obtain ⟨fa, fc, rfl⟩ := hfv.isSlice
        have hpmi : (pm : Int) + (q : Int) < N := by omega
        clear hpq hpm
        by_cases hinj : (p, q) ∈ D'
        case pos =>
          rw [decide_eq_true hinj] at hsc
          have HF2 := Lib.hid (show facesTo t (dartsTo t u (v + 1)) = (F ++ [f], D') by
            rw [HYES.out, facesTo_snoc, HF.out, fstep, if_neg hin, ← HW.out, trW_in hinj])
          have hRj := hR.keptOther hsn (by decide) (by decide) hkj
          have hqj : Below w.heap.size w wj := hkj.below hq hq.size (fun b e => by simp at e; omega)
          have hwis := hq.size
          have hfge := fun b hb => (hfv.lt b hb).1
          obtain ⟨vs, hvsl, hown, hbC, hap, hrows⟩ := hRj
          rw [List.length_map] at hvsl hown
          have hjs := hkj.2.2.2.1
          obtain ⟨oa, oc, rfl⟩ := hown.isSlice
          clear hR hinj hst hsf
          go_wp2_with (at_builtin; refine wpList_append1 elRows rfl _ _ rfl hown rfl (by first | rfl | simp) rfl (by omega) (by omega) ?_; intro o5 w5 hown5 hkept hmv)
          have hR5 : OwnR w5 w.heap.size w5.heap.size 46 2 o5 (F.map natsI ++ [natsI f]) := ownR_snoc (by rw [List.length_map]; exact hvsl) hjs hap hrows hbC (by rw [List.length_map]; exact hown5) (by rw [natsI_len]; exact hfv.weak hwis) hfge hkept (by
            rcases hmv with h | h
            · exact .inl h
            · exact .inr ⟨_, h, by simp⟩)
          have hs5 := hsj.kept hkept (fun b hb e => own_type hsj hown (by decide) b hb e)
          have hq5 := hkept.below hqj hqj.size (fun c h => (hown.lt c h).1)
          go_roundw
          case rel => exact ⟨v + 1, F ++ [f], D', by omega, by go_num, HF2, by rw [List.map_append]; exact hR5, hs5, hq5⟩
          case measure => simp [intOf]; omega
        rw [decide_eq_false hinj] at hsc
        have HW2 := Lib.hid (show trW t (D' ++ [(p, q)]) (succD t (p, q)) (f ++ [p]) = trW t D (u, v) [] by rw [← trW_step HT.out HX.out hinj]; exact HW.out)
        have HX2 := Lib.hid (succ_isD HT.out HX.out)
        have HI2 := Lib.hid (show (∀ y ∈ D' ++ [(p, q)], IsD t y) ∧ (D' ++ [(p, q)]).Nodup from ⟨fun z hz => by
          rcases List.mem_append.1 hz with hz | hz
          · exact HI.out.1 z hz
          · simp only [List.mem_singleton] at hz; rw [hz]; exact HX.out, by
          rw [List.nodup_append]
          exact ⟨HI.out.2, by simp, fun a ha b hb => by simp only [List.mem_singleton] at hb; subst hb; exact fun e => hinj (e ▸ ha)⟩⟩)
        have hm1 : p ∈ t.getD q [] := (HT.out.sym p q HX.out).2
        have hD2 : (D' ++ [(p, q)]).length = D.length + (f.length + 1) := by rw [List.length_append]; simp only [List.length_singleton]; omega
        have h256b := len_le_sq HT.out HI2.out.1 HI2.out.2
        have hks : KeptBut wj (wj.setCell ⟨w.heap.size, pm + q, none⟩ (.bool true)) (some w.heap.size) := ⟨rfl, rfl, rfl, by simp, fun b _ hne => Below.heap_setCell _ _ _ _ (by simp; intro e; exact hne (by rw [e]))⟩
        have hfs := hfv.kept hks (fun b hb e => by have := (hfv.lt b hb).1; have h1 : w.heap.size = b := (by simpa using e); omega)
        have hkjs := keptT hkj hks
        have hjs := hkjs.2.2.2.1
        have hqs : Below w.heap.size w (wj.setCell ⟨w.heap.size, pm + q, none⟩ (.bool true)) := hkjs.below hq hq.size (fun b e => by simp at e; omega)
        have hqlm : q < (t.map natsI).length := by rw [List.length_map]; exact hq16
        obtain ⟨q1, rq⟩ := HRC.out q hqlm
        have eq : (t.map natsI)[q] = natsI (t.getD q []) := by simp [hq16]
        rw [eq] at rq
        have hrq16 := rot_row HT.out q
        have HBH := Lib.hid (fun (W : World) (hb : Below w.heap.size w W) => l22Behind_any (rq.below hb (Nat.le_refl _)) hrq16 hm1)
        have HW3 := Lib.hid (show trW t (D' ++ [(p, q)]) (q, nextIn (t.getD q []) p) (f ++ [p]) = trW t D (u, v) [] from HW2.out)
        have HX3 := Lib.hid (show IsD t (q, nextIn (t.getD q []) p) from HX2.out)
        generalize nextIn (t.getD q []) p = z at *
        generalize rf q = rqv at *
        have HQ1 := Lib.hid q1
        clear hinj HW2 HX2 eq rq q1
        have hqil : (q : Int) < t.length := by omega
        have hrb : rb < w.heap.size := cell_lt HQ1.out
        go_wp2_with (first | (at_builtin; refine wpList_append1b elI64 rfl _ _ rfl hfs rfl (by first | rfl | simp) rfl rfl (by omega) hjs ?_; intro v' w5 hfv5 hkept hmv; have hkj5 := keptN hkjs hkept (fun b e => (hfs.lt b e).1); have hst5 := hst.kept hkept (fun b hb e => own_type hst hfs (by decide) b hb e); have hq5 : Below w.heap.size w w5 := hkj5.below hq hq.size (fun b e => by simp at e; omega); have q5 := (hq5.cell (cell_lt HQ1.out)).trans HQ1.out) | (go_at_call 62; refine (HBH.out _ hq5).mono ?_; rintro e w' ⟨rfl, rfl⟩))
        obtain ⟨fa5, fc5, rfl⟩ := hfv5.isSlice
        go_roundw
        case rel => exact ⟨D' ++ [(p, q)], q, z, f ++ [p], rfl, rfl, HW3, HX3, by rw [List.length_append, natsI_append, List.map_append]; exact hfv5, hst5, HI2, by rw [List.length_append, List.length_append]; simp; omega, hkj5⟩
        case measure => simp [lenV]; omega
