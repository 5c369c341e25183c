/- Twice the genus, by the reference. -/
import Derived.Test.YtbpjbjeglcphcaaGreatDoorGenA
import Derived.Test.YtbpjbjeglcphcaaGreatDoorFac2
import Derived.Test.YtbpjbjeglcphcaaGreatDoorReach
import Derived.Test.YtbpjbjeglcphcaaGreatDoorFacM
import Derived.Test.YtbpjbjeglcphcaaGreatDoorEdge
import Derived.Test.YtbpjbjeglcphcaaGreatDoorPop
namespace Go.Proofs.YtbpjbjeglcphcaaGreatDoor
open Go.RowKit
def nextL (t : List (List Nat)) : List Nat := t.map fun l => maskL (natsI l)
def bigP (l : List Nat) : List Nat := l.filter fun m => decide (1 < popN m)
noncomputable def partP (a : List Nat) (wi : Nat) : Nat := (bigP (partsN a wi)).length
noncomputable def partV (a : List Nat) (wi : Nat) : Nat := ((bigP (partsN a wi)).map popN).sum
def sidesN (t : List (List Nat)) : Nat := (t.map List.length).sum
noncomputable def twiceI (t : List (List Nat)) : Int := 2 * (partP (nextL t) (firstN t.length) : Int) + ((sidesN t / 2 : Nat) : Int) - (partV (nextL t) (firstN t.length) : Int) - ((facesN t).length : Int)
theorem nextL_len (t : List (List Nat)) : (nextL t).length = t.length := by simp [nextL]
theorem natsI_range {t : List (List Nat)} (h : RotN t) (u : Nat) : ∀ x ∈ natsI (t.getD u []), 0 ≤ x ∧ x < 32 := fun x hx => by
  unfold natsI at hx
  obtain ⟨v, hv, rfl⟩ := List.mem_map.1 hx
  have := (h.sym u v hv).1
  have := h.le
  omega
theorem mask32G {s : List Int} (h : ∀ x ∈ s, 0 ≤ x ∧ x < 32) : maskL s < 4294967296 := by
  have := maskL_lt (xs := s) (n := 32) h; simpa using this
theorem nextL_lt {t : List (List Nat)} (h : RotN t) : ∀ m ∈ nextL t, m < 4294967296 := fun m hm => by
  obtain ⟨l, hl, rfl⟩ := List.mem_map.1 hm
  obtain ⟨i, hi, rfl⟩ := List.getElem_of_mem hl
  have := natsI_range h i
  have e : t.getD i [] = t[i] := by simp [hi]
  rw [e] at this
  exact mask32G this
theorem bigP_le (l : List Nat) : (bigP l).length ≤ l.length := List.length_filter_le _ _
theorem sum_le32 : ∀ l : List Nat, (l.map popN).sum ≤ 32 * l.length
  | [] => by simp
  | x :: l => by
    have := sum_le32 l
    have h := popN_32 x
    simp only [List.map_cons, List.sum_cons, List.length_cons]
    omega
theorem partP_le (a : List Nat) (wi : Nat) : partP a wi ≤ 33 := Nat.le_trans (bigP_le _) (partsN_len a wi)
theorem partV_le (a : List Nat) (wi : Nat) : partV a wi ≤ 1056 := by
  have h1 := sum_le32 (bigP (partsN a wi))
  have h2 := partP_le a wi
  unfold partP at h2
  unfold partV
  omega
theorem part_zero (a : List Nat) : partP a 0 = 0 ∧ partV a 0 = 0 := by simp [partP, partV, partsN_zero, bigP]
theorem part_step {a : List Nat} {wi : Nat} (hw : wi < 4294967296) (h0 : wi ≠ 0) :
    partP a wi = (if 1 < popN (reachN a wi (Lib.ctz 32 wi)) then 1 else 0) + partP a (andN wi (reachN a wi (Lib.ctz 32 wi))) ∧
    partV a wi = (if 1 < popN (reachN a wi (Lib.ctz 32 wi)) then popN (reachN a wi (Lib.ctz 32 wi)) else 0) + partV a (andN wi (reachN a wi (Lib.ctz 32 wi))) := by
  unfold partP partV
  rw [partsN_step hw h0]
  unfold bigP
  rw [List.filter_cons]
  by_cases h : 1 < popN (reachN a wi (Lib.ctz 32 wi))
  · simp [h]; omega
  · simp [h]
theorem sides_take {t : List (List Nat)} {k : Nat} (hk : k < t.length) : sidesN (t.take (k + 1)) = sidesN (t.take k) + t[k].length := by
  unfold sidesN
  rw [List.take_succ_eq_append_getElem hk, List.map_append, List.sum_append]; simp
theorem sides_le {t : List (List Nat)} (h : RotN t) : ∀ k, k ≤ t.length → sidesN (t.take k) ≤ 16 * k
  | 0, _ => by simp [sidesN]
  | k + 1, hk => by
    have ih := sides_le h k (by omega)
    have := rot_row h k
    have e : t.getD k [] = t[k] := by simp [show k < t.length by omega]
    rw [e] at this
    rw [sides_take (by omega)]
    omega
set_option maxRecDepth 100000 in
set_option maxHeartbeats 8000000 in
theorem l22Twice_any {S : Nat → Prop} {tv : Value} {t : List (List Nat)} {w : World} (ht : RotN t) (h0 : 0 < t.length) (hv : SlR S w tv (t.map natsI)) :
    Calls Tryz.prog 25 #[tv] w fun e w' => e = .returned (.int .i64 (twiceI t)) ∧ Below w.heap.size w w' := by
  have hvS := hv
  obtain ⟨ra, rb, roff, rcap, rf, rfl, hrl, hra, hrc⟩ := hv
  rw [List.length_map] at *
  obtain ⟨rfl, -⟩ := hra h0
  have h16 := ht.le
  have hq0 : Below w.heap.size w (w.alloc (.cells #[] 2)) := (Below.refl _ _).alloc (Nat.le_refl _) _
  have ho0 : Own (w.alloc (.cells #[] 2)) w.heap.size 2 1 (.slice (some ⟨w.heap.size, 0, none⟩) 0 0) 0 [] := by
    have := World.ownsRow_lit (base := w.heap.size) (e := 2) (size := 1) w #[] 0 (Nat.le_refl _) (by unfold maxLen; omega) rfl
    simpa [Own] using this
  have HRC := Lib.hid hrc
  have HT := Lib.hid ht
  have hfaces := fun (W : World) (hb : Below w.heap.size w W) => l22Faces_any ht h0 (hvS.below hb (Nat.le_refl _))
  have HFACES := Lib.hid hfaces
  have HTW := Lib.hid (show twiceI t = 2 * (partP (nextL t) (firstN t.length) : Int) + ((sidesN t / 2 : Nat) : Int) - (partV (nextL t) (firstN t.length) : Int) - ((facesN t).length : Int) from rfl)
  have hfl := (facesN_small ht).1
  clear hrc ht hfaces hvS
  go_enter Tryz.func25, Tryz.ntmps25
  go_wp2
  go_loopw [5, 3, 4] (fun iv nv sv wr => ∃ k : Nat, k ≤ t.length ∧ iv = .int .i64 k ∧ sv = .int .i64 (sidesN (t.take k) : Int) ∧ Own wr w.heap.size 2 1 nv k ((natsI (nextL (t.take k))).map (.int .i64)) ∧ Below w.heap.size w wr) (fun iv _ _ _ => t.length - (intOf iv).toNat)
  case atStart => exact ⟨0, Nat.zero_le _, rfl, by simp [sidesN], by simpa [nextL, natsI] using ho0, hq0⟩
  case round =>
    clear ho0 hq0
    obtain ⟨k, hk, rfl, rfl, ho, hq⟩ := hrel
    obtain ⟨wi, rfl⟩ : ∃ wx : World, wx = wr := ⟨_, rfl⟩
    have hsl := sides_le HT.out k hk
    by_cases hlt : k < t.length
    case pos =>
      have hul : k < (t.map natsI).length := by rw [List.length_map]; exact hlt
      obtain ⟨k1, r1⟩ := HRC.out k hul
      have e : (t.map natsI)[k] = natsI t[k] := by simp
      rw [e] at r1
      have hrr := natsI_range HT.out k
      have e2 : t.getD k [] = t[k] := by simp [hlt]
      rw [e2] at hrr
      have hrw := rot_row HT.out k
      rw [e2] at hrw
      have k0 := k1
      have k1 := (hq.cell (cell_lt k1)).trans k1
      have r1 := r1.below hq (Nat.le_refl _)
      have hm := l25Mask_any r1 hrr
      have HM := Lib.hid (show natsI (nextL (t.take (k + 1))) = natsI (nextL (t.take k)) ++ [((maskL (natsI t[k]) : Nat) : Int)] by
        unfold nextL natsI
        rw [List.take_succ_eq_append_getElem hlt, List.map_append, List.map_append]; rfl)
      have HS := Lib.hid (sides_take hlt)
      obtain ⟨rowa, rowc, hre⟩ := r1.slice
      rw [natsI_len] at hre
      rw [hre] at k0 k1 hm
      have hlti : (k : Int) < t.length := by omega
      have hB := hq.size
      clear r1 e e2 hre hrr
      generalize maskL (natsI t[k]) = mk at *
      generalize t[k].length = rl at *
      generalize sidesN (t.take k) = sd at *
      obtain ⟨oa, oc, rfl⟩ := ho.isSlice
      go_wp2_with (first | (go_at_call 46; refine hm.mono ?_; rintro e w' ⟨rfl, rfl⟩) | (at_builtin; refine wpList_append1 elI64 rfl _ _ rfl ho rfl rfl rfl (by omega) hB ?_; intro v' w1 hown1 hkept hmv; have hq1 := hkept.below hq hB ho.ge; have k2 := (hq1.cell (cell_lt k0)).trans k0))
      go_roundw
      case rel => exact ⟨k + 1, by omega, by go_num, by rw [HS.out]; go_num, by rw [HM.out, List.map_append]; exact hown1, hq1⟩
      case measure => simp [intOf]; omega
    obtain rfl : k = t.length := by omega
    rw [List.take_length] at *
    have hoI := Own.ints (xs := natsI (nextL t)) ho (by omega)
    have hfc := HFACES.out _ hq
    have hsh := shl_one t.length (by omega)
    have hfb : (bit t.length : Int) - 1 = (firstN t.length : Int) := by
      have h1 : 1 ≤ bit t.length := Nat.one_le_two_pow
      have h2 : firstN t.length = bit t.length - 1 := rfl
      omega
    have hbl := bit_lt (n := t.length) (by omega)
    have hfl32 : firstN t.length < 4294967296 := by have := firstN_lt h16; omega
    have hpart := fun (v wi : Nat) (h1 : wi < 4294967296) (h2 : v < 32) => l27Part_any (v := v) (wi := wi) hoI (by rw [nextL_len]; exact h16) (nextL_lt HT.out) h1 h2
    have HPART := Lib.hid hpart
    have hnl := nextL_len t
    have hqs := (show Int.tdiv (sidesN t : Int) 2 = ((sidesN t / 2 : Nat) : Int) from rfl)
    have hpl := partP_le (nextL t) (firstN t.length)
    have hvl := partV_le (nextL t) (firstN t.length)
    obtain ⟨oa, oc, rfl⟩ := ho.isSlice
    have HFL := Lib.hid hfl32
    generalize firstN t.length = FN at *
    generalize bit t.length = BN at *
    clear hpart hnl ho hoI
    have hsl2 : sidesN t / 2 ≤ 128 := by omega
    generalize sidesN t / 2 = s2 at *
    generalize sidesN t = sd at *
    generalize nextL t = a at *
    go_wp2
    go_loop [8, 6, 7] (fun lv vv pv => ∃ L V P : Nat, lv = .int .i64 L ∧ vv = .int .i64 V ∧ pv = .int .i64 P ∧ L < 4294967296 ∧ RowKit.Hid (P + partP a L = partP a FN ∧ V + partV a L = partV a FN)) (fun lv _ _ => (intOf lv).toNat)
    case atStart => exact ⟨FN, 0, 0, by first | rfl | (rw [hsh, hfb]) | (simp [hsh, hfb]), rfl, rfl, hfl32, Lib.hid ⟨by omega, by omega⟩⟩
    case round =>
      clear hsh hfb hbl hfl32
      obtain ⟨L, V, P, rfl, rfl, rfl, hL, HI⟩ := hrel
      by_cases hL0 : L = 0
      case pos =>
        subst hL0
        have hz := part_zero a
        have h1 := HI.out
        rw [hz.1, hz.2] at h1
        have HP := Lib.hid (show P = partP a FN ∧ V = partV a FN by omega)
        have hP33 : P ≤ 33 := by have := HP.out.1; omega
        have hV : V ≤ 1056 := by have := HP.out.2; omega
        clear h1 hz
        go_wp2_with fail
        refine hfc.mono ?_
        rintro e w2 ⟨fu, rfl, hfu, hb2⟩
        obtain ⟨fa, fcap, rfl⟩ := hfu.isSlice
        rw [List.length_map]
        clear hfu hfc
        generalize hFe : (facesN t).length = FL at *
        have HFE := Lib.hid hFe
        clear hFe
        go_wp2
        go_ret
        refine ⟨?_, hq.trans (hb2.mono hq.size)⟩
        rw [HTW.out, ← HP.out.1, ← HP.out.2]
        rfl
      have hcb := ctz_bit hL0 hL
      have hc32 : Lib.ctz 32 L < 32 := bit_lt_of (n := 32) hL hcb
      have hlow := fun W => l27Low_any L W hL0 hL
      have hpa := HPART.out (Lib.ctz 32 L) L hL hc32
      have hrl := reachN_lt a L (Lib.ctz 32 L)
      have hmany := fun W => l25Many_any (reachN a L (Lib.ctz 32 L)) W hrl
      have han := i64_andNot_nat L (reachN a L (Lib.ctz 32 L)) hL hrl
      have hless := parts_less (a := a) hL hL0
      have hst := part_step (a := a) hL hL0
      have h32 := popN_32 (reachN a L (Lib.ctz 32 L))
      have HST := Lib.hid hst
      have hI := HI.out
      generalize Lib.ctz 32 L = c at *
      generalize reachN a L c = m at *
      generalize andN L m = L2 at *
      clear hcb hst HPART hL0
      have hPP : P ≤ 33 := by omega
      have hVV : V ≤ 1056 := by omega
      by_cases hp : 1 < popN m
      case pos =>
        have HI2 := Lib.hid (show (P + 1) + partP a L2 = partP a FN ∧ (V + popN m) + partV a L2 = partV a FN by
          have h1 := HST.out
          rw [if_pos hp, if_pos hp] at h1
          omega)
        have hd1 : decide ((1 : Int) < (popN m : Int)) = true := decide_eq_true (by omega)
        have hd2 : decide (1 < popN m) = true := decide_eq_true hp
        generalize popN m = pm at *
        clear hI
        go_wp2_with (first | (go_at_call 48; refine (hlow _).mono ?_; rintro e w' ⟨rfl, rfl⟩) | (go_at_call 47; refine hpa.mono ?_; rintro e w' ⟨rfl, rfl⟩) | (go_at_call 49; refine (hmany _).mono ?_; rintro e w' ⟨rfl, rfl⟩))
        go_round
        case rel => exact ⟨L2, V + pm, P + 1, rfl, by go_num, by go_num, by omega, HI2⟩
        case measure => simp [intOf]; omega
      case neg =>
        have HI2 := Lib.hid (show P + partP a L2 = partP a FN ∧ V + partV a L2 = partV a FN by
          have h1 := HST.out
          rw [if_neg hp, if_neg hp] at h1
          omega)
        have hd1 : decide ((1 : Int) < (popN m : Int)) = false := decide_eq_false (by omega)
        have hd2 : decide (1 < popN m) = false := decide_eq_false hp
        generalize popN m = pm at *
        clear hI
        go_wp2_with (first | (go_at_call 48; refine (hlow _).mono ?_; rintro e w' ⟨rfl, rfl⟩) | (go_at_call 47; refine hpa.mono ?_; rintro e w' ⟨rfl, rfl⟩) | (go_at_call 49; refine (hmany _).mono ?_; rintro e w' ⟨rfl, rfl⟩))
        go_round
        case rel => exact ⟨L2, V, P, rfl, rfl, rfl, by omega, HI2⟩
        case measure => simp [intOf]; omega
theorem darts_nodup (t : List (List Nat)) : (dartsN t).Nodup := by
  unfold dartsN
  rw [List.Nodup, List.pairwise_flatMap]
  refine ⟨fun u _ => ?_, ?_⟩
  · rw [List.pairwise_map]
    refine List.Pairwise.imp ?_ ((List.pairwise_lt_range (n := t.length)).filter _)
    intro a b hab e
    simp at e; omega
  · refine List.Pairwise.imp ?_ (List.pairwise_lt_range (n := t.length))
    intro a b hab x hx y hy e
    obtain ⟨_, _, rfl⟩ := List.mem_map.1 hx
    obtain ⟨_, _, rfl⟩ := List.mem_map.1 hy
    simp at e; omega
theorem swap_le {t : List (List Nat)} (h : RotN t) (p q : Dart → Bool) (hpq : ∀ x, p x = true → q (x.2, x.1) = true) : ((dartsN t).filter p).length ≤ ((dartsN t).filter q).length := by
  have hn : (((dartsN t).filter p).map fun x => (x.2, x.1)).Nodup := by
    rw [List.Nodup, List.pairwise_map]
    refine List.Pairwise.imp ?_ ((darts_nodup t).filter p)
    rintro ⟨a, b⟩ ⟨c, d⟩ hne e
    simp at e hne
    exact hne e.2 e.1
  have := nodup_lenA hn (E := (dartsN t).filter q) (fun y hy => by
    obtain ⟨x, hx, rfl⟩ := List.mem_map.1 hy
    obtain ⟨h1, h2⟩ := List.mem_filter.1 hx
    exact List.mem_filter.2 ⟨(mem_dartsN h).2 (h.sym _ _ ((mem_dartsN h).1 h1)).2, hpq x h2⟩)
  simpa using this
theorem darts_even {t : List (List Nat)} (h : RotN t) (hir : ∀ u, u ∉ t.getD u []) : (dartsN t).length = 2 * ((dartsN t).filter fun x => decide (x.1 < x.2)).length := by
  have e1 : ((dartsN t).filter fun x => decide (x.1 < x.2)).length = ((dartsN t).filter fun x => decide (x.2 < x.1)).length :=
    Nat.le_antisymm (swap_le h _ _ (fun x hx => by simpa using hx)) (swap_le h _ _ (fun x hx => by simpa using hx))
  have e2 : ((dartsN t).filter fun x => !decide (x.1 < x.2)) = (dartsN t).filter fun x => decide (x.2 < x.1) := by
    apply List.filter_congr
    rintro ⟨a, b⟩ hx
    have hD := (mem_dartsN h).1 hx
    have : a ≠ b := fun e => hir a (by subst e; exact hD)
    rw [Bool.eq_iff_iff]
    simp only [Bool.not_eq_true', decide_eq_false_iff_not, decide_eq_true_eq]
    omega
  have e3 : (dartsN t).length = ((dartsN t).filter fun x => decide (x.1 < x.2)).length + ((dartsN t).filter fun x => !decide (x.1 < x.2)).length := by
    have : ∀ l : List Dart, l.length = (l.filter fun x => decide (x.1 < x.2)).length + (l.filter fun x => !decide (x.1 < x.2)).length := fun l => by
      induction l with
      | nil => rfl
      | cons x l ih =>
        rw [List.filter_cons, List.filter_cons]
        by_cases h : x.1 < x.2
        · simp [h, ih]; omega
        · simp [h, ih]; omega
    exact this _
  rw [e2, ← e1] at e3
  omega
theorem sum_rows {t : List (List Nat)} (f : Nat → Nat) (hf : ∀ u, u < t.length → f u = (t.getD u []).length) : ((List.range t.length).map f).sum = sidesN t := by
  have e : (List.range t.length).map f = t.map List.length := by
    apply List.ext_getElem (by simp)
    intro i h1 h2
    have hi : i < t.length := by simpa using h1
    simp only [List.getElem_map, List.getElem_range]
    rw [hf i hi]
    simp [hi]
  rw [e]; rfl
theorem darts_sides {t : List (List Nat)} (h : RotN t) : (dartsN t).length = sidesN t := by
  unfold dartsN
  rw [List.length_flatMap]
  exact sum_rows _ (fun u hu => by rw [List.length_map, row_len h])
theorem edgesTo_flat (g : List (List Int)) : ∀ k, (edgesTo g k).length = ((List.range k).map fun u => ((g.getD u []).filter fun v => decide ((u : Int) < v)).length).sum
  | 0 => rfl
  | k + 1 => by
    rw [edgesTo, List.length_append, edgesTo_flat g k, List.range_succ, List.map_append, List.sum_append]
    simp [edgeRow]
theorem aro_sorted {g r : List (List Int)} (h : AroundP g r) {u : Nat} (hu : u < g.length) : g.getD u [] = natsI (rowD (tOf r) u) := by
  have e : g.getD u [] = g[u] := by simp [hu]
  refine sorted_ext ?_ ?_ (fun x => ?_)
  · rw [e]; exact rise_pw (h.gok.rise u hu)
  · unfold natsI rowD
    rw [List.pairwise_map]
    exact (List.pairwise_lt_range.filter _).imp (fun h => by omega)
  · unfold natsI
    simp only [List.mem_map]
    constructor
    · intro hx
      have h1 := h.gok.ge hu x (by rw [← e]; exact hx)
      refine ⟨x.toNat, (mem_rowD (aro_rot h)).2 ((aro_mem h u x.toNat).2 (by rw [Int.toNat_of_nonneg h1.1]; exact hx)), by omega⟩
    · rintro ⟨v, hv, rfl⟩
      exact (aro_mem h u v).1 ((mem_rowD (aro_rot h)).1 hv)
theorem edges_sides {g r : List (List Int)} (h : AroundP g r) : sidesN (tOf r) = 2 * (edgesL g).length := by
  have hr := aro_rot h
  have hl : (tOf r).length = g.length := by rw [tOf_len, h.len]
  have hir : ∀ u, u ∉ (tOf r).getD u [] := fun u hu => by
    have h1 := (aro_mem h u u).1 hu
    have h2 := aro_ge h ((aro_row h u _).2 h1)
    have e : g.getD u [] = g[u]'h2.2.2 := by simp [h2.2.2]
    rw [e] at h1
    exact h.gok.irrefl u h2.2.2 h1
  rw [← darts_sides hr, darts_even hr hir]
  congr 1
  unfold edgesL
  rw [edgesTo_flat, ← hl]
  unfold dartsN
  rw [List.filter_flatMap, List.length_flatMap]
  congr 1
  apply List.map_congr_left
  intro u hu
  have hu' : u < g.length := by rw [← hl]; exact List.mem_range.1 hu
  rw [aro_sorted h hu']
  unfold natsI
  rw [List.filter_map, List.length_map, List.filter_map, List.length_map]
  congr 1
  apply List.filter_congr
  intro v _
  simp [Function.comp]
theorem aro_next {g r : List (List Int)} (h : AroundP g r) : netsL g = nextL (tOf r) := by
  have hl : (tOf r).length = g.length := by rw [tOf_len, h.len]
  apply List.ext_getElem (by rw [netsL_len, nextL_len, hl])
  intro u h1 h2
  have hu : u < g.length := by rw [netsL_len] at h1; exact h1
  have hrr := natsI_range (aro_rot h) u
  simp only [netsL, nextL, List.getElem_map]
  have e : g.getD u [] = g[u] := by simp [hu]
  have e2 : (tOf r).getD u [] = (tOf r)[u]'(by rw [hl]; exact hu) := by simp [show u < (tOf r).length by rw [hl]; exact hu]
  rw [e2] at hrr
  apply nat_ext
  intro i
  rw [testBit_maskL (fun x hx => (h.gok.ge hu x hx).1), testBit_maskL (fun x hx => (hrr x hx).1), decide_eq_decide]
  have := aro_mem h u i
  rw [e, e2] at this
  unfold natsI
  rw [List.mem_map]
  constructor
  · intro hi; exact ⟨i, this.2 hi, rfl⟩
  · rintro ⟨v, hv, hvi⟩
    have : v = i := by omega
    subst this
    have hm : v ∈ (tOf r).getD u [] := by rw [e2]; exact hv
    have h3 := (aro_mem h u v).1 hm
    rw [e] at h3; exact h3
/-- What the program adds up. -/
def bigSum (l : List Nat) : Int := ((bigP l).map fun m => (2 : Int) - (popN m : Int)).sum
theorem bigSum_eq : ∀ l : List Nat, bigSum l = 2 * ((bigP l).length : Int) - (((bigP l).map popN).sum : Nat)
  | [] => rfl
  | m :: l => by
    have ih := bigSum_eq l
    unfold bigSum bigP at *
    rw [List.filter_cons]
    by_cases h : 1 < popN m
    · simp only [h, decide_true, if_true, List.map_cons, List.sum_cons, List.length_cons]
      rw [ih]; push_cast; omega
    · simp only [h, decide_false, Bool.false_eq_true, if_false]
      exact ih
theorem bigSum_take {l : List Nat} {k : Nat} (hk : k < l.length) : bigSum (l.take (k + 1)) = bigSum (l.take k) + if 1 < popN l[k] then (2 : Int) - (popN l[k] : Int) else 0 := by
  unfold bigSum bigP
  rw [List.take_succ_eq_append_getElem hk, List.filter_append, List.map_append, List.sum_append]
  by_cases h : 1 < popN l[k] <;> simp [h]
theorem bigSum_le : ∀ l : List Nat, -(32 * (l.length : Int)) ≤ bigSum l ∧ bigSum l ≤ 0
  | [] => by simp [bigSum, bigP]
  | m :: l => by
    have ih := bigSum_le l
    have h32 := popN_32 m
    unfold bigSum bigP at *
    rw [List.filter_cons]
    by_cases h : 1 < popN m
    · simp only [h, decide_true, if_true, List.map_cons, List.sum_cons, List.length_cons]
      push_cast; omega
    · simp only [h, decide_false, Bool.false_eq_true, if_false, List.length_cons]
      push_cast; omega
theorem twice_bound {t : List (List Nat)} (h : RotN t) : -5000 ≤ twiceI t ∧ twiceI t ≤ 5000 := by
  have h1 := partP_le (nextL t) (firstN t.length)
  have h2 := partV_le (nextL t) (firstN t.length)
  have h3 := (facesN_small h).1
  have h4 := sides_le h t.length (Nat.le_refl _)
  rw [List.take_length] at h4
  have h5 := h.le
  unfold twiceI
  omega
theorem tdiv_bound {z : Int} (h : -5000 ≤ z ∧ z ≤ 5000) : -5000 ≤ Int.tdiv z 2 ∧ Int.tdiv z 2 ≤ 5000 := by
  rcases Int.le_total 0 z with h0 | h0
  · rw [Int.tdiv_eq_ediv_of_nonneg h0]; omega
  · obtain ⟨y, rfl⟩ : ∃ y, z = -y := ⟨-z, by omega⟩
    rw [Int.neg_tdiv, Int.tdiv_eq_ediv_of_nonneg (by omega)]; omega
noncomputable def genusI (g r : List (List Int)) : Int := if aroundB g r = true then Int.tdiv (twiceI (tOf r)) 2 else -1
theorem twice_impl {g r : List (List Int)} (h : AroundP g r) : twiceI (tOf r) = (((edgesL g).length : Int) - ((facesN (tOf r)).length : Int)) + bigSum (partsN (netsL g) (firstN g.length)) := by
  have h1 := edges_sides h
  have h2 : sidesN (tOf r) / 2 = (edgesL g).length := by omega
  have hl : (tOf r).length = g.length := by rw [tOf_len, h.len]
  unfold twiceI
  rw [h2, bigSum_eq, aro_next h, hl]
  unfold partP partV
  omega
set_option maxHeartbeats 4000000 in
theorem specGenusOf_any {S S' : Nat → Prop} {gv rv : Value} {g r : List (List Int)} {w : World} (hvg : SlR S w gv g) (hvr : SlR S' w rv r) :
    Calls Tryz.prog 8 #[.agg #[gv], .agg #[rv]] w fun e w' => e = .returned (.int .i64 (genusI g r)) ∧ Below w.heap.size w w' := by
  have hq0 : Below w.heap.size w ((w.alloc (.cells #[gv] 30)).alloc (.cells #[rv] 32)) := ((Below.refl _ _).alloc (Nat.le_refl _) _).alloc (by simp) _
  obtain ⟨ga, gc, rfl⟩ := hvg.slice
  obtain ⟨ra, rc, rfl⟩ := hvr.slice
  have hao := specAroundOk_any (hvg.below hq0 (Nat.le_refl _)) (hvr.below hq0 (Nat.le_refl _))
  by_cases ha : aroundB g r = true
  case neg =>
    have HE := Lib.hid (show genusI g r = -1 by rw [genusI, if_neg ha])
    rw [Bool.not_eq_true] at ha
    rw [ha] at hao
    clear ha
    go_enter Tryz.func8, Tryz.ntmps8
    go_wp2_with fail
    refine hao.mono ?_
    rintro e w1 ⟨rfl, hb1⟩
    go_wp2
    go_ret
    exact ⟨ret_int HE.out.symm, hq0.trans (hb1.mono hq0.size)⟩
  have hP := around_iff.1 ha
  have HE := Lib.hid (show genusI g r = Int.tdiv (twiceI (tOf r)) 2 by rw [genusI, if_pos ha])
  rw [ha] at hao
  have HRT := Lib.hid (aro_rot hP)
  have HEQ := Lib.hid (aro_eq hP)
  have HL0 := Lib.hid (show 0 < (tOf r).length by rw [tOf_len, hP.len]; exact hP.gok.lo)
  clear ha hP
  go_enter Tryz.func8, Tryz.ntmps8
  go_wp2_with fail
  refine hao.mono ?_
  rintro e w1 ⟨rfl, hb1⟩
  have hq1 := hq0.trans (hb1.mono hq0.size)
  have c1 : w1.cell? ⟨w.heap.size + 1, 0, none⟩ = some (.slice ra r.length rc) := (hb1.cell (p := ⟨w.heap.size + 1, 0, none⟩) (by simp)).trans (by simp [go_sem])
  have htr := hvr.below hq1 (Nat.le_refl _)
  rw [show SlR S' w1 (.slice ra r.length rc) r = SlR S' w1 (.slice ra r.length rc) ((tOf r).map natsI) by rw [← HEQ.out]] at htr
  have htw := l22Twice_any HRT.out HL0.out htr
  have hb := twice_bound HRT.out
  generalize twiceI (tOf r) = z at *
  obtain ⟨zq, hzq⟩ : ∃ zq, zq = Int.tdiv z 2 := ⟨_, rfl⟩
  have HZQ := Lib.hid hzq
  have hzb : -5000 ≤ Int.tdiv z 2 ∧ Int.tdiv z 2 ≤ 5000 := tdiv_bound hb
  rw [← hzq] at hzb
  have hzq2 : Int.tdiv z 2 = zq := hzq.symm
  clear hao hzq
  go_wp2_with fail
  refine htw.mono ?_
  rintro e w2 ⟨rfl, hb2⟩
  go_wp2
  go_ret
  exact ⟨ret_int (by rw [HE.out]; first | rfl | exact HZQ.out | exact HZQ.out.symm), hq1.trans (hb2.mono hq1.size)⟩
theorem partsF_lt2 {a : List Nat} {n : Nat} (hn : n ≤ 16) : ∀ {k wi x : Nat}, wi < 2 ^ n → x ∈ partsF a k wi → x < 2 ^ n
  | 0, _, _, _, h => by simp [partsF] at h
  | k + 1, wi, x, hw, h => by
    have hw32 : wi < 4294967296 := Nat.lt_of_lt_of_le hw (by have := pow_le16 hn; omega)
    rw [partsF] at h
    by_cases h0 : wi = 0
    · rw [if_pos h0] at h; cases h
    · rw [if_neg h0] at h
      rcases List.mem_cons.1 h with rfl | h
      · exact reach_lt2 hn hw (bit_lt_of hw (ctz_bit h0 hw32))
      · exact partsF_lt2 hn (Nat.lt_of_le_of_lt (andN_le _ _) hw) h
set_option maxHeartbeats 2000000 in
theorem manyEdges_any {S : Nat → Prop} {v : Value} {g : List (List Int)} {w : World} (hg : GOk g) (hv : SlR S w v g) :
    Calls Tryz.prog 30 #[.agg #[v]] w fun e w' => e = .returned (.int .i64 ((edgesL g).length : Int)) ∧ Below w.heap.size w w' := by
  have hq0 : Below w.heap.size w (w.alloc (.cells #[v] 30)) := (Below.refl _ _).alloc (Nat.le_refl _) _
  obtain ⟨ga, gc, rfl⟩ := hv.slice
  have hee : Calls Tryz.prog 59 #[.agg #[.slice ga g.length gc]] (w.alloc (.cells #[.slice ga g.length gc] 30)) fun e w' => ∃ u, e = .returned u ∧ OwnR w' (w.alloc (.cells #[.slice ga g.length gc] 30)).heap.size w'.heap.size 45 2 u (edgesL g) ∧ Below (w.alloc (.cells #[.slice ga g.length gc] 30)).heap.size (w.alloc (.cells #[.slice ga g.length gc] 30)) w' := by
    generalize (w.alloc (.cells #[.slice ga g.length gc] 30)) = wa at *
    have hva : SlR S wa (.slice ga g.length gc) g := hv.below hq0 (Nat.le_refl _)
    have hq1 : Below wa.heap.size wa (wa.alloc (.cells #[.slice ga g.length gc] 30)) := (Below.refl _ _).alloc (Nat.le_refl _) _
    have hok := implGraphOk_any _ _ _ (hva.below hq1 (Nat.le_refl _))
    rw [gokB_true hg] at hok
    go_enter Tryz.func59, Tryz.ntmps59
    go_wp2_with fail
    refine hok.mono ?_
    rintro e w1 ⟨rfl, hb1⟩
    have hq2 := hq1.trans (hb1.mono hq1.size)
    have c1 : w1.cell? ⟨wa.heap.size, 0, none⟩ = some (.slice ga g.length gc) := (hb1.cell (p := ⟨wa.heap.size, 0, none⟩) (by simp)).trans (by simp [go_sem])
    have hed := edgesOf_any hg (hva.below hq2 (Nat.le_refl _))
    clear hok
    go_wp2_with fail
    refine hed.mono ?_
    rintro e w2 ⟨u, rfl, hu, hb2⟩
    go_wp2
    go_ret
    exact ⟨_, rfl, hu.weaken hq2.size (Nat.le_refl _), hq2.trans (hb2.mono hq2.size)⟩
  have hs0 : w.heap.size ≤ (w.alloc (.cells #[.slice ga g.length gc] 30)).heap.size := hq0.size
  have hel := (edges_small hg).1
  go_enter Tryz.func30, Tryz.ntmps30
  go_wp2_with fail
  refine hee.mono ?_
  rintro e w1 ⟨u, rfl, hu, hb1⟩
  obtain ⟨ua, uc, rfl⟩ := hu.isSlice
  go_wp2
  go_ret
  exact ⟨rfl, hq0.trans (hb1.mono hs0)⟩
set_option maxRecDepth 100000 in
set_option maxHeartbeats 8000000 in
theorem implGenusOf_any {S S' : Nat → Prop} {gv rv : Value} {g r : List (List Int)} {w : World} (htab : Tab w) (hvg : SlR S w gv g) (hvr : SlR S' w rv r) (hs : SmallR r 1048576) :
    Calls Tryz.prog 11 #[.agg #[gv], .agg #[rv]] w fun e w' => e = .returned (.int .i64 (genusI g r)) ∧ Below w.heap.size w w' := by
  have hq0 : Below w.heap.size w ((w.alloc (.cells #[gv] 30)).alloc (.cells #[rv] 32)) := ((Below.refl _ _).alloc (Nat.le_refl _) _).alloc (by simp) _
  obtain ⟨ga, gc, rfl⟩ := hvg.slice
  obtain ⟨ra, rc, rfl⟩ := hvr.slice
  have hao := implAroundOk_any (hvg.below hq0 (Nat.le_refl _)) (hvr.below hq0 (Nat.le_refl _)) (fun x hx => by
    obtain ⟨i, hi, rfl⟩ := List.getElem_of_mem hx
    have := hs.2 i hi hi; omega)
  by_cases ha : aroundB g r = true
  case neg =>
    have HE := Lib.hid (show genusI g r = -1 by rw [genusI, if_neg ha])
    rw [Bool.not_eq_true] at ha
    rw [ha] at hao
    clear ha
    go_enter Tryz.func11, Tryz.ntmps11
    go_wp2_with fail
    refine hao.mono ?_
    rintro e w1 ⟨rfl, hb1⟩
    go_wp2
    go_ret
    exact ⟨ret_int HE.out.symm, hq0.trans (hb1.mono hq0.size)⟩
  have hP := around_iff.1 ha
  have HE := Lib.hid (show genusI g r = Int.tdiv (twiceI (tOf r)) 2 by rw [genusI, if_pos ha])
  rw [ha] at hao
  have HRT := Lib.hid (aro_rot hP)
  have HEQ := Lib.hid (aro_eq hP)
  have HTI := Lib.hid (twice_impl hP)
  have hg := hP.gok
  have h16 := hg.hi
  have hlo := hg.lo
  have hp16 := pow_le16 h16
  have htb := tdiv_bound (twice_bound (aro_rot hP))
  have hel : (edgesL g).length ≤ 512 := by have := edgesTo_len hg g.length (Nat.le_refl _); unfold edgesL; omega
  have hfl := (facesN_small (aro_rot hP)).1
  have hf2 : firstN g.length < 2 ^ g.length := by unfold firstN; have := Nat.two_pow_pos g.length; omega
  clear ha hP
  go_enter Tryz.func11, Tryz.ntmps11
  go_wp2_with fail
  refine hao.mono ?_
  rintro e w1 ⟨rfl, hb1⟩
  have hq1 := hq0.trans (hb1.mono hq0.size)
  have c0 : w1.cell? ⟨w.heap.size, 0, none⟩ = some (.slice ga g.length gc) := (hb1.cell (p := ⟨w.heap.size, 0, none⟩) (by simp <;> omega)).trans (by simp [go_sem])
  have c1 : w1.cell? ⟨w.heap.size + 1, 0, none⟩ = some (.slice ra r.length rc) := (hb1.cell (p := ⟨w.heap.size + 1, 0, none⟩) (by simp)).trans (by simp [go_sem])
  have htn := turnsOf_any (hvr.below hq1 (Nat.le_refl _)) hs
  clear hao
  go_wp2_with fail
  refine htn.mono ?_
  rintro e w2 ⟨tu, rfl, htu, hb2⟩
  clear htn
  have hq2 := hq1.trans (hb2.mono hq1.size)
  have c0 := (hb2.cell (cell_lt c0)).trans c0
  have htr := htu.rows hs
  rw [HEQ.out] at htr
  have hfa := faces_any HRT.out htr
  go_wp2_with fail
  refine hfa.mono ?_
  rintro e w3 ⟨fu, mb, rfl, hfu, hb3⟩
  clear hfa htr htu
  have hq3 := hq2.trans (hb3.mono hq2.size)
  have c0 := (hb3.cell (cell_lt c0)).trans c0
  obtain ⟨fa, fc, rfl⟩ := hfu.isSlice
  rw [List.length_map]
  have hme := manyEdges_any hg (hvg.below hq3 (Nat.le_refl _))
  generalize hFe : (facesN (tOf r)).length = FL at *
  have HFE := Lib.hid hFe
  generalize hEe : (edgesL g).length = EL at *
  have HEE := Lib.hid hEe
  clear hfu hFe hEe
  go_wp2_with fail
  refine hme.mono ?_
  rintro e w4 ⟨rfl, hb4⟩
  have hq4 := hq3.trans (hb4.mono hq3.size)
  have c0 := (hb4.cell (cell_lt c0)).trans c0
  have hno := netsOf_any _ _ _ (hvg.below hq4 (Nat.le_refl _)) hg
  clear hme
  go_wp2_with fail
  refine hno.mono ?_
  rintro e w5 ⟨nu, rfl, hnu, hb5⟩
  have hq5 := hq4.trans (hb5.mono hq4.size)
  have hnI := Own.ints (xs := natsI (netsL g)) hnu (by omega)
  obtain ⟨na, nc, rfl⟩ := hnu.isSlice
  have hal := allOf_any na g.length nc w5 h16
  have hpo := partsOf_any (wi := firstN g.length) (htab.below hq5 (Nat.le_refl _)) hnI (by rw [netsL_len]; exact h16) (fun m hm => by
    obtain ⟨l, hl, rfl⟩ := List.mem_map.1 hm
    obtain ⟨i, hi, rfl⟩ := List.getElem_of_mem hl
    exact mask32G (fun x hx => hg.ge32 hi x hx)) (by rw [netsL_len]; exact hf2)
  have hpl := partsN_len (netsL g) (firstN g.length)
  have HLT := Lib.hid (fun x (hx : x ∈ partsN (netsL g) (firstN g.length)) => show x < 65536 from Nat.lt_of_lt_of_le (partsF_lt2 h16 hf2 hx) hp16)
  generalize partsN (netsL g) (firstN g.length) = L at *
  clear hno hnu
  go_wp2_with (go_at_call 33; refine hal.mono ?_; rintro e w' ⟨rfl, rfl⟩)
  refine hpo.mono ?_
  rintro e w6 ⟨pu, rfl, hpu, hb6⟩
  have hq6 := hq5.trans (hb6.mono hq5.size)
  obtain ⟨pb, po, pc, hpe, hpc⟩ := (Own.ints (xs := natsI L) hpu (by omega)).at_
  obtain ⟨pa, pcap, rfl⟩ := hpu.isSlice
  rw [natsI_len] at hpe
  have HPC := Lib.hid hpc
  clear hpo hal hpu hpc hnI
  go_wp2
  go_loopw [33, 7] (fun iv sv wr => ∃ k : Nat, k ≤ L.length ∧ iv = .int .i64 k ∧ sv = .int .i64 (((EL : Int) - (FL : Int)) + bigSum (L.take k)) ∧ Drawn w6 wr) (fun iv _ _ => L.length - (intOf iv).toNat)
  case atStart => exact ⟨0, Nat.zero_le _, rfl, by simp [bigSum, bigP], Drawn.refl _⟩
  case round =>
    obtain ⟨k, hk, rfl, rfl, hqd⟩ := hrel
    obtain ⟨wi, rfl⟩ : ∃ wx : World, wx = wr := ⟨_, rfl⟩
    have hbl := bigSum_le (L.take k)
    rw [List.length_take, Nat.min_eq_left hk] at hbl
    by_cases hlt : k < L.length
    case neg =>
      obtain rfl : k = L.length := by omega
      rw [List.take_length] at *
      have HZ := Lib.hid (show genusI g r = Int.tdiv ((EL : Int) - (FL : Int) + bigSum L) 2 by rw [HE.out, HTI.out])
      have hzb : -5000 ≤ Int.tdiv ((EL : Int) - (FL : Int) + bigSum L) 2 ∧ Int.tdiv ((EL : Int) - (FL : Int) + bigSum L) 2 ≤ 5000 := tdiv_bound (by omega)
      generalize (EL : Int) - (FL : Int) + bigSum L = z at *
      obtain ⟨zq, hzq⟩ : ∃ zq, zq = Int.tdiv z 2 := ⟨_, rfl⟩
      have HZQ := Lib.hid hzq
      rw [← hzq] at hzb
      have hzq2 : Int.tdiv z 2 = zq := hzq.symm
      clear hzq htb
      go_wp2
      go_ret
      exact ⟨ret_int (by rw [HZ.out]; first | rfl | exact HZQ.out | exact HZQ.out.symm), hq6.trans ((hqd.below w6.heap.size).mono hq6.size)⟩
    have hc := HPC.out k (by rw [natsI_len]; exact hlt)
    rw [natsI_get] at hc
    have hc := (hqd.cell _).trans hc
    have hpe2 := hpe (by omega)
    simp only [Value.slice.injEq] at hpe2
    obtain ⟨rfl, -, rfl⟩ := hpe2
    have hm16 := HLT.out _ (List.getElem_mem hlt)
    have HBT := Lib.hid (bigSum_take hlt)
    have hsz := fun W => size_any L[k] W hm16
    have hpi := popN_I L[k]
    rw [← hpi] at hsz
    have h32 := popN_32 L[k]
    have hbl2 := bigSum_le (L.take (k + 1))
    rw [List.length_take, Nat.min_eq_left hlt] at hbl2
    generalize bigSum (L.take k) = sk at *
    generalize hsk2 : bigSum (L.take (k + 1)) = sk2 at *
    have HSK := Lib.hid hsk2
    have HBT2 := HBT.out
    generalize popN L[k] = p at *
    generalize L[k] = m at *
    clear hpi hsk2 hpe
    by_cases hp : 1 < p
    case pos =>
      rw [if_pos hp] at HBT2
      have HB3 := Lib.hid HBT2
      have hd1 : decide ((1 : Int) < (p : Int)) = true := decide_eq_true (by omega)
      have hd2 : decide (1 < p) = true := decide_eq_true hp
      clear HBT2
      go_wp2_with fail
      refine (hsz _).mono ?_
      rintro e w7 ⟨rfl, hd7⟩
      go_wp2_with fail
      refine (hsz _).mono ?_
      rintro e w8 ⟨rfl, hd8⟩
      go_wp2
      go_roundw
      case rel => exact ⟨k + 1, by omega, by go_num, by rw [HSK.out, HB3.out]; first | rfl | (congr 1; omega), (hqd.trans hd7).trans hd8⟩
      case measure => simp [intOf]; omega
    case neg =>
      rw [if_neg hp] at HBT2
      have HB3 := Lib.hid HBT2
      have hd1 : decide ((1 : Int) < (p : Int)) = false := decide_eq_false (by omega)
      have hd2 : decide (1 < p) = false := decide_eq_false hp
      clear HBT2
      go_wp2_with fail
      refine (hsz _).mono ?_
      rintro e w7 ⟨rfl, hd7⟩
      go_wp2
      go_roundw
      case rel => exact ⟨k + 1, by omega, by go_num, by rw [HSK.out, HB3.out]; first | rfl | (congr 1; omega), hqd.trans hd7⟩
      case measure => simp [intOf]; omega
set_option maxHeartbeats 8000000 in
theorem lawGenusOf_any {S0 S1 : Nat → Prop} (v0 : Value) (g0 : List (List Int)) (v1 : Value) (rr1 : List (List Int)) (w : World) (ht : Tab w) (hv0 : SlR S0 w v0 g0) (hv1 : SlR S1 w v1 rr1) :
    Calls Tryz.prog 3 #[.agg #[v0], .agg #[v1]] w fun e w' => e = .returned (.bool true) ∧ Below w.heap.size w w' := by
  obtain ⟨a0, c0, rfl⟩ := hv0.slice
  obtain ⟨a1, c1, rfl⟩ := hv1.slice
  have q0 : Below w.heap.size w ((w.alloc (.cells #[.slice a0 g0.length c0] 24)).alloc (.cells #[.slice a1 rr1.length c1] 26)) := ((Below.refl _ _).alloc (Nat.le_refl _) _).alloc (by simp; try omega) _
  go_enter Tryz.func3, Tryz.ntmps3
  go_wp2_with fail
  refine (szGraph_any _ _ _ _ (hv0.below q0 (Nat.le_refl _)) (by omega) (by omega)).mono ?_
  rintro e w1 ⟨r1, rfl, hr1, hs1, hm1, hb1⟩
  have q1 := q0.trans (hb1.mono q0.size)
  have b0_1 : w1.cell? ⟨w.heap.size, 0, none⟩ = some (.slice a0 g0.length c0) := (hb1.cell (p := ⟨w.heap.size, 0, none⟩) (by simp <;> omega)).trans (by simp [go_sem])
  have b1_1 : w1.cell? ⟨w.heap.size + 1, 0, none⟩ = some (.slice a1 rr1.length c1) := (hb1.cell (p := ⟨w.heap.size + 1, 0, none⟩) (by simp <;> omega)).trans (by simp [go_sem])
  by_cases hneg1 : r1 < 0
  case pos =>
    go_wp2
    go_ret
    exact ⟨rfl, q1⟩
  have hsm0 : SmallR g0 1048576 := hm1 (by omega)
  go_wp2_with fail
  refine (szAround_any _ _ _ _ (hv1.below q1 (Nat.le_refl _)) (by omega) (by omega)).mono ?_
  rintro e w2 ⟨r2, rfl, hr2, hs2, hm2, hb2⟩
  have q2 := q1.trans (hb2.mono q1.size)
  have b0_2 : w2.cell? ⟨w.heap.size, 0, none⟩ = some (.slice a0 g0.length c0) := (hb2.cell (p := ⟨w.heap.size, 0, none⟩) (cell_lt b0_1)).trans b0_1
  have b1_2 : w2.cell? ⟨w.heap.size + 1, 0, none⟩ = some (.slice a1 rr1.length c1) := (hb2.cell (p := ⟨w.heap.size + 1, 0, none⟩) (cell_lt b1_1)).trans b1_1
  by_cases hneg2 : r2 < 0
  case pos =>
    go_wp2
    go_ret
    exact ⟨rfl, q2⟩
  have hsm1 : SmallR rr1 1048576 := smallR_mono (hm2 (by omega)) (by omega)
  go_wp2
  have _tt : True := trivial
  refine wp_region_held_drew (S := (fun w' => w'.cell? ⟨w.heap.size, 0, none⟩ = some (.slice a0 g0.length c0) ∧ w'.cell? ⟨w.heap.size + 1, 0, none⟩ = some (.slice a1 rr1.length c1))) (by kernel_rfl) ?_ (fun hHeld => ?_)
  · first | exact ⟨‹_›, ‹_›⟩ | assumption | (simp [*, go_sem])
  refine wpAnyH_take (i := 0) (v := ?v1) (by simp only [List.getElem?_toArray, List.getElem?_cons_zero]; exact rfl) (by kernel_rfl) (by kernel_rfl) (by kernel_rfl) (by intro _ _ _ h; exact h) (Or.inl ⟨by rfl, ?y1⟩) hHeld ?_
  case y1 => (intro w hSw; (try dsimp only at hSw); go_simp; try (with_reducible rfl))
  try simp only [Act.put, List.setIfInBounds_toArray, List.set_cons_zero, List.set_cons_succ]
  refine wpAnyH_take (i := 2) (v := ?v2) (by simp only [List.getElem?_toArray, List.getElem?_cons_succ, List.getElem?_cons_zero]; exact rfl) (by kernel_rfl) (by kernel_rfl) (by kernel_rfl) (by intro _ _ _ h; exact h) (Or.inl ⟨by rfl, ?y2⟩) hHeld ?_
  case y2 => (intro w hSw; (try dsimp only at hSw); go_simp; try (with_reducible rfl))
  try simp only [Act.put, List.setIfInBounds_toArray, List.set_cons_zero, List.set_cons_succ]
  refine wpAnyH_ready (rs := [1]) (by kernel_rfl) (by simp) ?_
  refine AllReadyH.cons (by simp only [List.getElem?_toArray, List.getElem?_cons_succ, List.getElem?_cons_zero]; exact rfl) (fun K hK => ?_) AllReadyH.nil
  go_simp
  have q2d := q2.drew
  refine (toGraph_any _ _ _ (hv0.below q2d (Nat.le_refl _)) hsm0).mono ?_
  rintro e w3 ⟨x3, rfl, hy3, hb3⟩
  have hb3e : Below w2.heap.size w2 w3 := ⟨hb3.os, hb3.tape, hb3.output, hb3.size, hb3.block⟩
  have q3 := q2.trans (hb3e.mono q2.size)
  have b0_3 : w3.cell? ⟨w.heap.size, 0, none⟩ = some (.slice a0 g0.length c0) := (hb3e.cell (p := ⟨w.heap.size, 0, none⟩) (cell_lt b0_2)).trans b0_2
  have b1_3 : w3.cell? ⟨w.heap.size + 1, 0, none⟩ = some (.slice a1 rr1.length c1) := (hb3e.cell (p := ⟨w.heap.size + 1, 0, none⟩) (cell_lt b1_2)).trans b1_2
  have y3_3 := hy3
  try dsimp only
  refine hK.out _ _ ?h4 (fun hHeld => ?_)
  case h4 => first | exact ⟨‹_›, ‹_›⟩ | assumption | (simp [*, go_sem])
  clear hK K
  try simp only [Act.put, List.setIfInBounds_toArray, List.set_cons_zero, List.set_cons_succ]
  refine wpAnyH_ready (rs := [3]) (by kernel_rfl) (by simp) ?_
  refine AllReadyH.cons (by simp only [List.getElem?_toArray, List.getElem?_cons_succ, List.getElem?_cons_zero]; exact rfl) (fun K hK => ?_) AllReadyH.nil
  go_simp
  refine (toAround_any _ _ _ (hv1.below q3 (Nat.le_refl _)) hsm1).mono ?_
  rintro e w4 ⟨x4, rfl, hy4, hb4⟩
  have q4 := q3.trans (hb4.mono q3.size)
  have b0_4 : w4.cell? ⟨w.heap.size, 0, none⟩ = some (.slice a0 g0.length c0) := (hb4.cell (p := ⟨w.heap.size, 0, none⟩) (cell_lt b0_3)).trans b0_3
  have b1_4 : w4.cell? ⟨w.heap.size + 1, 0, none⟩ = some (.slice a1 rr1.length c1) := (hb4.cell (p := ⟨w.heap.size + 1, 0, none⟩) (cell_lt b1_3)).trans b1_3
  have y3_4 := y3_3.below hb4 (Nat.le_refl _)
  have y4_4 := hy4
  try dsimp only
  refine hK.out _ _ ?h6 (fun hHeld => ?_)
  case h6 => first | exact ⟨‹_›, ‹_›⟩ | assumption | (simp [*, go_sem])
  clear hK K
  try simp only [Act.put, List.setIfInBounds_toArray, List.set_cons_zero, List.set_cons_succ]
  refine wpAnyH_ready (rs := [4]) (by kernel_rfl) (by simp) ?_
  refine AllReadyH.cons (by simp only [List.getElem?_toArray, List.getElem?_cons_succ, List.getElem?_cons_zero]; exact rfl) (fun K hK => ?_) AllReadyH.nil
  go_simp
  refine (specGenusOf_any y3_4 y4_4).mono ?_
  rintro e w5 ⟨rfl, hb5⟩
  have q5 := q4.trans (hb5.mono q4.size)
  have b0_5 : w5.cell? ⟨w.heap.size, 0, none⟩ = some (.slice a0 g0.length c0) := (hb5.cell (p := ⟨w.heap.size, 0, none⟩) (cell_lt b0_4)).trans b0_4
  have b1_5 : w5.cell? ⟨w.heap.size + 1, 0, none⟩ = some (.slice a1 rr1.length c1) := (hb5.cell (p := ⟨w.heap.size + 1, 0, none⟩) (cell_lt b1_4)).trans b1_4
  have y3_5 := y3_4.below hb5 (Nat.le_refl _)
  have y4_5 := y4_4.below hb5 (Nat.le_refl _)
  try dsimp only
  refine hK.out _ _ ?h8 (fun hHeld => ?_)
  case h8 => first | exact ⟨‹_›, ‹_›⟩ | assumption | (simp [*, go_sem])
  clear hK K
  try simp only [Act.put, List.setIfInBounds_toArray, List.set_cons_zero, List.set_cons_succ]
  refine wpAnyH_take (i := 5) (v := ?v9) (by simp only [List.getElem?_toArray, List.getElem?_cons_succ, List.getElem?_cons_zero]; exact rfl) (by kernel_rfl) (by kernel_rfl) (by kernel_rfl) (by intro _ _ _ h; exact h) (Or.inl ⟨by rfl, ?y9⟩) hHeld ?_
  case y9 => (intro w hSw; (try dsimp only at hSw); go_simp; try (with_reducible rfl))
  try simp only [Act.put, List.setIfInBounds_toArray, List.set_cons_zero, List.set_cons_succ]
  refine wpAnyH_done (by kernel_rfl) ?_ _
  go_wp2_with fail
  refine (toGraph_any _ _ _ (hv0.below q5 (Nat.le_refl _)) hsm0).mono ?_
  rintro e w6 ⟨x6, rfl, hy6, hb6⟩
  have q6 := q5.trans (hb6.mono q5.size)
  have b0_6 : w6.cell? ⟨w.heap.size, 0, none⟩ = some (.slice a0 g0.length c0) := (hb6.cell (p := ⟨w.heap.size, 0, none⟩) (cell_lt b0_5)).trans b0_5
  have b1_6 : w6.cell? ⟨w.heap.size + 1, 0, none⟩ = some (.slice a1 rr1.length c1) := (hb6.cell (p := ⟨w.heap.size + 1, 0, none⟩) (cell_lt b1_5)).trans b1_5
  have y3_6 := y3_5.below hb6 (Nat.le_refl _)
  have y4_6 := y4_5.below hb6 (Nat.le_refl _)
  have y6_6 := hy6
  obtain ⟨xa7, xc7, rfl⟩ := y6_6.slice
  have hb7 : Below w6.heap.size w6 (w6.alloc (.cells #[.slice xa7 g0.length xc7] 30)) := (Below.refl _ _).alloc (Nat.le_refl _) _
  have q7 := q6.trans (hb7.mono q6.size)
  have b0_7 := (hb7.cell (p := ⟨w.heap.size, 0, none⟩) (cell_lt b0_6)).trans b0_6
  have b1_7 := (hb7.cell (p := ⟨w.heap.size + 1, 0, none⟩) (cell_lt b1_6)).trans b1_6
  have y3_7 := y3_6.below hb7 (Nat.le_refl _)
  have y4_7 := y4_6.below hb7 (Nat.le_refl _)
  have y6_7 := y6_6.below hb7 (Nat.le_refl _)
  go_wp2_with fail
  refine (toAround_any _ _ _ (hv1.below q7 (Nat.le_refl _)) hsm1).mono ?_
  rintro e w8 ⟨x8, rfl, hy8, hb8⟩
  have q8 := q7.trans (hb8.mono q7.size)
  have b0_8 : w8.cell? ⟨w.heap.size, 0, none⟩ = some (.slice a0 g0.length c0) := (hb8.cell (p := ⟨w.heap.size, 0, none⟩) (by have := cell_lt b0_7; simp at this ⊢; omega)).trans b0_7
  have b1_8 : w8.cell? ⟨w.heap.size + 1, 0, none⟩ = some (.slice a1 rr1.length c1) := (hb8.cell (p := ⟨w.heap.size + 1, 0, none⟩) (by have := cell_lt b1_7; simp at this ⊢; omega)).trans b1_7
  have l7_8 : w8.cell? ⟨w6.heap.size, 0, none⟩ = some (.slice xa7 g0.length xc7) := (hb8.cell (p := ⟨w6.heap.size, 0, none⟩) (by simp)).trans (by simp [go_sem])
  have y3_8 := y3_7.below hb8 (Nat.le_refl _)
  have y4_8 := y4_7.below hb8 (Nat.le_refl _)
  have y6_8 := y6_7.below hb8 (Nat.le_refl _)
  have y8_8 := hy8
  obtain ⟨xa9, xc9, rfl⟩ := y8_8.slice
  have hb9 : Below w8.heap.size w8 (w8.alloc (.cells #[.slice xa9 rr1.length xc9] 32)) := (Below.refl _ _).alloc (Nat.le_refl _) _
  have q9 := q8.trans (hb9.mono q8.size)
  have b0_9 := (hb9.cell (p := ⟨w.heap.size, 0, none⟩) (cell_lt b0_8)).trans b0_8
  have b1_9 := (hb9.cell (p := ⟨w.heap.size + 1, 0, none⟩) (cell_lt b1_8)).trans b1_8
  have l7_9 := (hb9.cell (p := ⟨w6.heap.size, 0, none⟩) (cell_lt l7_8)).trans l7_8
  have y3_9 := y3_8.below hb9 (Nat.le_refl _)
  have y4_9 := y4_8.below hb9 (Nat.le_refl _)
  have y6_9 := y6_8.below hb9 (Nat.le_refl _)
  have y8_9 := y8_8.below hb9 (Nat.le_refl _)
  go_wp2_with fail
  refine (implGenusOf_any (ht.below q9 (Nat.le_refl _)) y6_9 y8_9 hsm1).mono ?_
  rintro e w10 ⟨rfl, hb10⟩
  have q10 := q9.trans (hb10.mono q9.size)
  have b0_10 : w10.cell? ⟨w.heap.size, 0, none⟩ = some (.slice a0 g0.length c0) := (hb10.cell (p := ⟨w.heap.size, 0, none⟩) (by have := cell_lt b0_9; simp at this ⊢; omega)).trans b0_9
  have b1_10 : w10.cell? ⟨w.heap.size + 1, 0, none⟩ = some (.slice a1 rr1.length c1) := (hb10.cell (p := ⟨w.heap.size + 1, 0, none⟩) (by have := cell_lt b1_9; simp at this ⊢; omega)).trans b1_9
  have l7_10 : w10.cell? ⟨w6.heap.size, 0, none⟩ = some (.slice xa7 g0.length xc7) := (hb10.cell (p := ⟨w6.heap.size, 0, none⟩) (by have := cell_lt l7_9; simp at this ⊢; omega)).trans l7_9
  have l9_10 : w10.cell? ⟨w8.heap.size, 0, none⟩ = some (.slice xa9 rr1.length xc9) := (hb10.cell (p := ⟨w8.heap.size, 0, none⟩) (by simp)).trans (by simp [go_sem])
  have y3_10 := y3_9.below hb10 (Nat.le_refl _)
  have y4_10 := y4_9.below hb10 (Nat.le_refl _)
  have y6_10 := y6_9.below hb10 (Nat.le_refl _)
  have y8_10 := y8_9.below hb10 (Nat.le_refl _)
  go_wp2
  have _tt : True := trivial
  refine wp_region_held_drew (S := (fun w' => w'.cell? ⟨w.heap.size, 0, none⟩ = some (.slice a0 g0.length c0) ∧ w'.cell? ⟨w.heap.size + 1, 0, none⟩ = some (.slice a1 rr1.length c1) ∧ w'.cell? ⟨w6.heap.size, 0, none⟩ = some (.slice xa7 g0.length xc7) ∧ w'.cell? ⟨w8.heap.size, 0, none⟩ = some (.slice xa9 rr1.length xc9))) (by kernel_rfl) ?_ (fun hHeld => ?_)
  · first | exact ⟨‹_›, ‹_›, ‹_›, ‹_›⟩ | assumption | (simp [*, go_sem])
  refine wpAnyH_take (i := 0) (v := ?v10) (by simp only [List.getElem?_toArray, List.getElem?_cons_zero]; exact rfl) (by kernel_rfl) (by kernel_rfl) (by kernel_rfl) (by intro _ _ _ h; exact h) (Or.inl ⟨by rfl, ?y10⟩) hHeld ?_
  case y10 => (intro w hSw; (try dsimp only at hSw); go_simp; try (with_reducible rfl))
  try simp only [Act.put, List.setIfInBounds_toArray, List.set_cons_zero, List.set_cons_succ]
  refine wpAnyH_take (i := 1) (v := ?v11) (by simp only [List.getElem?_toArray, List.getElem?_cons_succ, List.getElem?_cons_zero]; exact rfl) (by kernel_rfl) (by kernel_rfl) (by kernel_rfl) (by intro _ _ _ h; exact h) (Or.inl ⟨by rfl, ?y11⟩) hHeld ?_
  case y11 => (intro w hSw; (try dsimp only at hSw); go_simp; try (with_reducible rfl))
  try simp only [Act.put, List.setIfInBounds_toArray, List.set_cons_zero, List.set_cons_succ]
  refine wpAnyH_ready (rs := [2]) (by kernel_rfl) (by simp) ?_
  refine AllReadyH.cons (by simp only [List.getElem?_toArray, List.getElem?_cons_succ, List.getElem?_cons_zero]; exact rfl) (fun K hK => ?_) AllReadyH.nil
  go_simp
  have q10d := q10.drew
  refine (toGraph_any _ _ _ (hv0.below q10d (Nat.le_refl _)) hsm0).mono ?_
  rintro e w11 ⟨x11, rfl, hy11, hb11⟩
  have hb11e : Below w10.heap.size w10 w11 := ⟨hb11.os, hb11.tape, hb11.output, hb11.size, hb11.block⟩
  have q11 := q10.trans (hb11e.mono q10.size)
  have b0_11 : w11.cell? ⟨w.heap.size, 0, none⟩ = some (.slice a0 g0.length c0) := (hb11e.cell (p := ⟨w.heap.size, 0, none⟩) (cell_lt b0_10)).trans b0_10
  have b1_11 : w11.cell? ⟨w.heap.size + 1, 0, none⟩ = some (.slice a1 rr1.length c1) := (hb11e.cell (p := ⟨w.heap.size + 1, 0, none⟩) (cell_lt b1_10)).trans b1_10
  have l7_11 : w11.cell? ⟨w6.heap.size, 0, none⟩ = some (.slice xa7 g0.length xc7) := (hb11e.cell (p := ⟨w6.heap.size, 0, none⟩) (cell_lt l7_10)).trans l7_10
  have l9_11 : w11.cell? ⟨w8.heap.size, 0, none⟩ = some (.slice xa9 rr1.length xc9) := (hb11e.cell (p := ⟨w8.heap.size, 0, none⟩) (cell_lt l9_10)).trans l9_10
  have y3_11 := y3_10.below hb11e (Nat.le_refl _)
  have y4_11 := y4_10.below hb11e (Nat.le_refl _)
  have y6_11 := y6_10.below hb11e (Nat.le_refl _)
  have y8_11 := y8_10.below hb11e (Nat.le_refl _)
  have y11_11 := hy11
  try dsimp only
  refine hK.out _ _ ?h13 (fun hHeld => ?_)
  case h13 => first | exact ⟨‹_›, ‹_›, ‹_›, ‹_›⟩ | assumption | (simp [*, go_sem])
  clear hK K
  try simp only [Act.put, List.setIfInBounds_toArray, List.set_cons_zero, List.set_cons_succ]
  refine wpAnyH_ready (rs := [3]) (by kernel_rfl) (by simp) ?_
  refine AllReadyH.cons (by simp only [List.getElem?_toArray, List.getElem?_cons_succ, List.getElem?_cons_zero]; exact rfl) (fun K hK => ?_) AllReadyH.nil
  go_simp
  refine (eqGraph_any _ _ _ _ _ y6_11 y11_11).mono ?_
  rintro e w12 ⟨rfl, hb12⟩
  have q12 := q11.trans (hb12.mono q11.size)
  have b0_12 : w12.cell? ⟨w.heap.size, 0, none⟩ = some (.slice a0 g0.length c0) := (hb12.cell (p := ⟨w.heap.size, 0, none⟩) (cell_lt b0_11)).trans b0_11
  have b1_12 : w12.cell? ⟨w.heap.size + 1, 0, none⟩ = some (.slice a1 rr1.length c1) := (hb12.cell (p := ⟨w.heap.size + 1, 0, none⟩) (cell_lt b1_11)).trans b1_11
  have l7_12 : w12.cell? ⟨w6.heap.size, 0, none⟩ = some (.slice xa7 g0.length xc7) := (hb12.cell (p := ⟨w6.heap.size, 0, none⟩) (cell_lt l7_11)).trans l7_11
  have l9_12 : w12.cell? ⟨w8.heap.size, 0, none⟩ = some (.slice xa9 rr1.length xc9) := (hb12.cell (p := ⟨w8.heap.size, 0, none⟩) (cell_lt l9_11)).trans l9_11
  have y3_12 := y3_11.below hb12 (Nat.le_refl _)
  have y4_12 := y4_11.below hb12 (Nat.le_refl _)
  have y6_12 := y6_11.below hb12 (Nat.le_refl _)
  have y8_12 := y8_11.below hb12 (Nat.le_refl _)
  have y11_12 := y11_11.below hb12 (Nat.le_refl _)
  try dsimp only
  refine hK.out _ _ ?h15 (fun hHeld => ?_)
  case h15 => first | exact ⟨‹_›, ‹_›, ‹_›, ‹_›⟩ | assumption | (simp [*, go_sem])
  clear hK K
  try simp only [Act.put, List.setIfInBounds_toArray, List.set_cons_zero, List.set_cons_succ]
  refine wpAnyH_take (i := 4) (v := ?v16) (by simp only [List.getElem?_toArray, List.getElem?_cons_succ, List.getElem?_cons_zero]; exact rfl) (by kernel_rfl) (by kernel_rfl) (by kernel_rfl) (by intro _ _ _ h; exact h) (Or.inl ⟨by rfl, ?y16⟩) hHeld ?_
  case y16 => (intro w hSw; (try dsimp only at hSw); go_simp; try (with_reducible rfl))
  try simp only [Act.put, List.setIfInBounds_toArray, List.set_cons_zero, List.set_cons_succ]
  refine wpAnyH_done (by kernel_rfl) ?_ _
  go_wp2
  have _tt : True := trivial
  refine wp_region_held_drew (S := (fun w' => w'.cell? ⟨w.heap.size, 0, none⟩ = some (.slice a0 g0.length c0) ∧ w'.cell? ⟨w.heap.size + 1, 0, none⟩ = some (.slice a1 rr1.length c1) ∧ w'.cell? ⟨w6.heap.size, 0, none⟩ = some (.slice xa7 g0.length xc7) ∧ w'.cell? ⟨w8.heap.size, 0, none⟩ = some (.slice xa9 rr1.length xc9))) (by kernel_rfl) ?_ (fun hHeld => ?_)
  · first | exact ⟨‹_›, ‹_›, ‹_›, ‹_›⟩ | assumption | (simp [*, go_sem])
  refine wpAnyH_take (i := 0) (v := ?v17) (by simp only [List.getElem?_toArray, List.getElem?_cons_zero]; exact rfl) (by kernel_rfl) (by kernel_rfl) (by kernel_rfl) (by intro _ _ _ h; exact h) (Or.inl ⟨by rfl, ?y17⟩) hHeld ?_
  case y17 => (intro w hSw; (try dsimp only at hSw); go_simp; try (with_reducible rfl))
  try simp only [Act.put, List.setIfInBounds_toArray, List.set_cons_zero, List.set_cons_succ]
  refine wpAnyH_take (i := 1) (v := ?v18) (by simp only [List.getElem?_toArray, List.getElem?_cons_succ, List.getElem?_cons_zero]; exact rfl) (by kernel_rfl) (by kernel_rfl) (by kernel_rfl) (by intro _ _ _ h; exact h) (Or.inl ⟨by rfl, ?y18⟩) hHeld ?_
  case y18 => (intro w hSw; (try dsimp only at hSw); go_simp; try (with_reducible rfl))
  try simp only [Act.put, List.setIfInBounds_toArray, List.set_cons_zero, List.set_cons_succ]
  refine wpAnyH_ready (rs := [2]) (by kernel_rfl) (by simp) ?_
  refine AllReadyH.cons (by simp only [List.getElem?_toArray, List.getElem?_cons_succ, List.getElem?_cons_zero]; exact rfl) (fun K hK => ?_) AllReadyH.nil
  go_simp
  have q12d := q12.drew
  refine (toAround_any _ _ _ (hv1.below q12d (Nat.le_refl _)) hsm1).mono ?_
  rintro e w13 ⟨x13, rfl, hy13, hb13⟩
  have hb13e : Below w12.heap.size w12 w13 := ⟨hb13.os, hb13.tape, hb13.output, hb13.size, hb13.block⟩
  have q13 := q12.trans (hb13e.mono q12.size)
  have b0_13 : w13.cell? ⟨w.heap.size, 0, none⟩ = some (.slice a0 g0.length c0) := (hb13e.cell (p := ⟨w.heap.size, 0, none⟩) (cell_lt b0_12)).trans b0_12
  have b1_13 : w13.cell? ⟨w.heap.size + 1, 0, none⟩ = some (.slice a1 rr1.length c1) := (hb13e.cell (p := ⟨w.heap.size + 1, 0, none⟩) (cell_lt b1_12)).trans b1_12
  have l7_13 : w13.cell? ⟨w6.heap.size, 0, none⟩ = some (.slice xa7 g0.length xc7) := (hb13e.cell (p := ⟨w6.heap.size, 0, none⟩) (cell_lt l7_12)).trans l7_12
  have l9_13 : w13.cell? ⟨w8.heap.size, 0, none⟩ = some (.slice xa9 rr1.length xc9) := (hb13e.cell (p := ⟨w8.heap.size, 0, none⟩) (cell_lt l9_12)).trans l9_12
  have y3_13 := y3_12.below hb13e (Nat.le_refl _)
  have y4_13 := y4_12.below hb13e (Nat.le_refl _)
  have y6_13 := y6_12.below hb13e (Nat.le_refl _)
  have y8_13 := y8_12.below hb13e (Nat.le_refl _)
  have y11_13 := y11_12.below hb13e (Nat.le_refl _)
  have y13_13 := hy13
  try dsimp only
  refine hK.out _ _ ?h20 (fun hHeld => ?_)
  case h20 => first | exact ⟨‹_›, ‹_›, ‹_›, ‹_›⟩ | assumption | (simp [*, go_sem])
  clear hK K
  try simp only [Act.put, List.setIfInBounds_toArray, List.set_cons_zero, List.set_cons_succ]
  refine wpAnyH_ready (rs := [3]) (by kernel_rfl) (by simp) ?_
  refine AllReadyH.cons (by simp only [List.getElem?_toArray, List.getElem?_cons_succ, List.getElem?_cons_zero]; exact rfl) (fun K hK => ?_) AllReadyH.nil
  go_simp
  refine (eqAround_any _ _ _ _ _ y8_13 y13_13).mono ?_
  rintro e w14 ⟨rfl, hb14⟩
  have q14 := q13.trans (hb14.mono q13.size)
  have b0_14 : w14.cell? ⟨w.heap.size, 0, none⟩ = some (.slice a0 g0.length c0) := (hb14.cell (p := ⟨w.heap.size, 0, none⟩) (cell_lt b0_13)).trans b0_13
  have b1_14 : w14.cell? ⟨w.heap.size + 1, 0, none⟩ = some (.slice a1 rr1.length c1) := (hb14.cell (p := ⟨w.heap.size + 1, 0, none⟩) (cell_lt b1_13)).trans b1_13
  have l7_14 : w14.cell? ⟨w6.heap.size, 0, none⟩ = some (.slice xa7 g0.length xc7) := (hb14.cell (p := ⟨w6.heap.size, 0, none⟩) (cell_lt l7_13)).trans l7_13
  have l9_14 : w14.cell? ⟨w8.heap.size, 0, none⟩ = some (.slice xa9 rr1.length xc9) := (hb14.cell (p := ⟨w8.heap.size, 0, none⟩) (cell_lt l9_13)).trans l9_13
  have y3_14 := y3_13.below hb14 (Nat.le_refl _)
  have y4_14 := y4_13.below hb14 (Nat.le_refl _)
  have y6_14 := y6_13.below hb14 (Nat.le_refl _)
  have y8_14 := y8_13.below hb14 (Nat.le_refl _)
  have y11_14 := y11_13.below hb14 (Nat.le_refl _)
  have y13_14 := y13_13.below hb14 (Nat.le_refl _)
  try dsimp only
  refine hK.out _ _ ?h22 (fun hHeld => ?_)
  case h22 => first | exact ⟨‹_›, ‹_›, ‹_›, ‹_›⟩ | assumption | (simp [*, go_sem])
  clear hK K
  try simp only [Act.put, List.setIfInBounds_toArray, List.set_cons_zero, List.set_cons_succ]
  refine wpAnyH_take (i := 4) (v := ?v23) (by simp only [List.getElem?_toArray, List.getElem?_cons_succ, List.getElem?_cons_zero]; exact rfl) (by kernel_rfl) (by kernel_rfl) (by kernel_rfl) (by intro _ _ _ h; exact h) (Or.inl ⟨by rfl, ?y23⟩) hHeld ?_
  case y23 => (intro w hSw; (try dsimp only at hSw); go_simp; try (with_reducible rfl))
  try simp only [Act.put, List.setIfInBounds_toArray, List.set_cons_zero, List.set_cons_succ]
  refine wpAnyH_done (by kernel_rfl) ?_ _
  go_wp2
  go_ret
  exact ⟨rfl, q14⟩
end Go.Proofs.YtbpjbjeglcphcaaGreatDoor
