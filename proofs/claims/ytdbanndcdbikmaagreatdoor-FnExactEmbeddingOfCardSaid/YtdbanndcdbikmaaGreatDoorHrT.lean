/- What the program's search for the turns keeps. -/
import Derived.Test.YtdbanndcdbikmaaGreatDoorEmbY
import Derived.Test.YtdbanndcdbikmaaGreatDoorFacM
import Derived.Test.YtdbanndcdbikmaaGreatDoorTns
import Derived.Shelf.Spec.SlicesInsertGrow
import Derived.Ground.Names2Prog
import Derived.Test.YtdbanndcdbikmaaGreatDoorHeld
import Derived.Test.YtdbanndcdbikmaaGreatDoorGroM
import Derived.Test.YtdbanndcdbikmaaGreatDoorLoop3
namespace Go.Proofs.YtdbanndcdbikmaaGreatDoor
open Go.RowKit Go.Shelf
theorem nilIntsR : ∀ (w : World) (a : Option Addr) (n c n' c' : Nat), (binOp .eql 57 (.slice a n c) (.slice none n' c')).run Tryz.prog w = .ok (.bool a.isNone) w := fun w a n c n' c' => Lib.run_eql_slice_nil w _ _ a n c n' c' Tryz.underlying57
set_option maxHeartbeats 1000000 in
theorem cloneR_any {S : Nat → Prop} {v : Value} {xs : List Int} {w : World} (hv : SlI S w .i64 v xs) (hn : xs.length ≤ 1048576) :
    Calls Tryz.prog 130 #[v] w fun e w' => ∃ u, e = .returned u ∧ Own w' w.heap.size 3 1 u xs.length (xs.map (.int .i64)) ∧ Below w.heap.size w w' := by
  have q := nilIntsR
  have hvS := hv
  obtain ⟨a, b, off, cap, rfl, hl, ha, hc⟩ := hv
  cases a with
  | none =>
    have hx : xs = [] := by
      by_cases h0 : 0 < xs.length
      · exact absurd (ha h0).1 (by simp)
      · exact List.eq_nil_of_length_eq_zero (by omega)
    subst hx
    go_enter Tryz.func130, Tryz.ntmps130
    go_wp2
    go_ret
    exact ⟨_, rfl, Own.nil _ _ _ _, Below.refl _ _⟩
  | some ad =>
    have hq0 : Below w.heap.size w (w.alloc (.cells #[] 3)) := (Below.refl _ _).alloc (Nat.le_refl _) _
    have hown : Own (w.alloc (.cells #[] 3)) w.heap.size 3 1 (.slice (some ⟨w.heap.size, 0, none⟩) 0 0) 0 [] := World.ownsRow_lit (base := w.heap.size) (e := 3) (size := 1) w #[] 0 (Nat.le_refl _) (by unfold maxLen; omega) rfl
    by_cases h0 : xs.length = 0
    · have hx : xs = [] := List.eq_nil_of_length_eq_zero h0
      subst hx
      obtain ⟨ab, ao, asp⟩ := ad
      go_enter Tryz.func130, Tryz.ntmps130
      go_wp2_with (at_builtin; refine wpList_append0 elInt rfl _ _ rfl hown rfl rfl ?_)
      go_ret
      exact ⟨_, rfl, hown, hq0⟩
    · have ha2 := (ha (by omega)).1
      simp only [Option.some.injEq] at ha2
      subst ha2
      have hvB := hvS.below hq0 (Nat.le_refl _)
      obtain ⟨a2, b2, off2, cap2, he, hl2, ha3, hc2⟩ := hvB
      simp only [Value.slice.injEq] at he
      obtain ⟨rfl, he2, rfl⟩ := he
      have ha4 := (ha3 (by omega)).1
      simp only [Option.some.injEq, Addr.mk.injEq, and_true] at ha4
      obtain ⟨rfl, rfl⟩ := ha4
      have hnews := hc2.news
      clear he2 hc hvS ha ha3 hc2
      generalize hln : xs.length = n at *
      go_enter Tryz.func130, Tryz.ntmps130
      go_wp2_with (at_builtin; refine wpList_append elInt rfl _ _ rfl hown rfl (news := xs.map (.int .i64)) rfl (by simp [hln]) hnews ints_one (by omega) (by simp) ?_; intro v' w1 hown1 hgr hmv; have hq1 := (KeptBut.of_grown hgr).below hq0 (by simp) hown.ge)
      go_ret
      refine ⟨_, rfl, ?_, hq1⟩
      simpa using hown1
theorem own_rowIs {w : World} {B g c n : Nat} {E : TypeId} {f : Nat → Value} {xs : List Value} (h : w.rowIs g E c f) (hB : B ≤ g) (hnc : n ≤ c) (hc : c ≤ maxLen) (hl : xs.length = n) (hx : ∀ j (hj : j < xs.length), f j = xs[j]) : Own w B E 1 (.slice (some ⟨g, 0, none⟩) n c) n xs := by
  obtain ⟨cur, hb, hs, hcur⟩ := h
  refine ⟨by omega, .inr ⟨g, c, cur, rfl, hB, hb, hnc, hc, by omega, ?_⟩⟩
  refine List.ext_getElem (by simp [hs]; omega) fun i h1 h2 => ?_
  have h3 := hcur i (by omega)
  rw [List.getElem_take, ← hx i h2]
  have h4 : i < cur.size := by omega
  rw [Array.getElem?_eq_getElem h4] at h3
  simpa using h3
theorem rowIs_own {w : World} {B g c n : Nat} {E : TypeId} {xs : List Value} (h : Own w B E 1 (.slice (some ⟨g, 0, none⟩) n c) n xs) : w.rowIs g E c (fun j => (w.cell? ⟨g, j, none⟩).getD default) ∧ B ≤ g ∧ n ≤ c ∧ c ≤ maxLen ∧ xs.length = n := by
  obtain ⟨h1, h2⟩ := h
  rcases h2 with ⟨hv, -⟩ | ⟨g', cap, cur, hv, hB, hg, hn, hc, hs, ht⟩
  · cases hv
  · simp only [Value.slice.injEq, Option.some.injEq, Addr.mk.injEq, and_true, true_and] at hv
    obtain ⟨rfl, rfl⟩ := hv
    refine ⟨⟨cur, hg, by omega, fun i hi => ?_⟩, hB, hn, hc, by omega⟩
    simp [World.cell?, hg, show i < cur.size by omega]
open Go.Shelf in
def Tryz.insI_ren : Go.Shelf.Ren := ⟨fun | 21 => 129 | 27 => 153 | 28 => 154 | 35 => 165 | 39 => 37 | n => n, fun | 22 => 57 | 3 => 3 | 4 => 4 | 0 => 0 | n => n, fun | n => n⟩
open Go.Shelf in
theorem Tryz.insI : Go.Proofs.Lays2.n21 Tryz.prog Tryz.insI_ren := {
  mixed := by kernel_rfl
  f21 := Tryz.func129.trans (congrArg some (by kernel_rfl))
  f27 := Tryz.func153.trans (congrArg some (by kernel_rfl))
  f28 := Tryz.func154.trans (congrArg some (by kernel_rfl))
  f35 := Tryz.func165.trans (congrArg some (by kernel_rfl))
  f39 := Tryz.func37.trans (congrArg some (by kernel_rfl))
  t0 := Tryz.underlying0
  a0 := Tryz.isAgg0
  z0 := Tryz.sizeOf0
  v0 := Tryz.zeroValue0
  t3 := Tryz.underlying3
  a3 := Tryz.isAgg3
  z3 := Tryz.sizeOf3
  v3 := Tryz.zeroValue3
  t4 := Tryz.underlying4
  a4 := Tryz.isAgg4
  z4 := Tryz.sizeOf4
  v4 := Tryz.zeroValue4
  t22 := Tryz.underlying57
  a22 := Tryz.isAgg57
  z22 := Tryz.sizeOf57
  v22 := Tryz.zeroValue57
  i3 := by kernel_rfl }
theorem bel_setCells {B b : Nat} {a : World} (hb : B ≤ b) : ∀ (vs : List Value) (o : Nat) (w : World), Below B a w → Below B a (w.setCells b o vs)
  | [], _, _, h => h
  | v :: r, o, w, h => bel_setCells hb r (o + 1) _ (h.setCell (by exact hb) v)
theorem row_setCells {b : Nat} {t : TypeId} {n : Nat} : ∀ (vs : List Value) (o : Nat) (w : World) (f : Nat → Value), w.rowIs b t n f → (w.setCells b o vs).rowIs b t n (fun j => if o ≤ j ∧ j < o + vs.length then vs[j - o]?.getD default else f j)
  | [], o, w, f, h => h.congr (fun j _ => by rw [if_neg (by simp)])
  | v :: r, o, w, f, h => by
    have ih := row_setCells r (o + 1) _ _ (h.set o v)
    refine ih.congr (fun j _ => ?_)
    by_cases h1 : j = o
    · subst h1
      rw [if_neg (by omega), if_pos rfl, if_pos (by simp), Nat.sub_self]
      rfl
    · by_cases h2 : o + 1 ≤ j ∧ j < o + 1 + r.length
      · rw [if_pos h2, if_pos (by simp; omega), show j - o = (j - (o + 1)) + 1 by omega, List.getElem?_cons_succ]
      · rw [if_neg h2, if_neg h1, if_neg (by simp; omega)]
theorem row_alloc (w : World) (c : Array Value) (t : TypeId) {n : Nat} (hn : c.size = n) : (w.alloc (.cells c t)).rowIs w.heap.size t n (fun j => c[j]?.getD default) := by
  subst hn
  exact World.rowIs_alloc w c t _ fun i hi => by simp [hi]
theorem shape_row {w : World} {b n : Nat} {t : TypeId} {f : Nat → Value} (h : w.rowIs b t n f) : w.shape? b = some (t, n) := by
  obtain ⟨c, hb, hs, -⟩ := h
  simp [World.shape?, hb, hs]
theorem ints1 (l : List Nat) : ∀ v ∈ (natsI l).map (Value.int .i64), v.oneCell' = true := fun v hv => by
  obtain ⟨x, -, rfl⟩ := List.mem_map.1 hv; rfl
theorem natsI_at (l : List Nat) (j : Nat) (v : Value) (h : ((natsI l).map (Value.int .i64))[j]? = some v) : ∃ hj : j < l.length, v = .int .i64 ((l[j] : Nat) : Int) := by
  have hj : j < l.length := by
    have := (List.getElem?_eq_some_iff.1 h).1
    rw [List.length_map, natsI_len] at this; exact this
  refine ⟨hj, ?_⟩
  unfold natsI at h
  simp [hj] at h
  exact h.symm
theorem natsI_el (l : List Nat) (j : Nat) (hj : j < l.length) (hj2 : j < ((natsI l).map (Value.int .i64)).length) : ((natsI l).map (Value.int .i64))[j] = .int .i64 ((l[j] : Nat) : Int) := by
  unfold natsI; simp
set_option maxHeartbeats 4000000 in
theorem insI_any {B : Nat} {u : Value} {l : List Nat} {i x vb : Nat} {w : World} (hu : Own w B 3 1 u l.length ((natsI l).map (.int .i64))) (hv : Own w B 3 1 (.slice (some ⟨vb, 0, none⟩) 1 1) 1 [.int .i64 (x : Int)]) (hne : u.ownBlock ≠ some vb) (hi : i ≤ l.length) (hl : l.length ≤ 1000) (hB : B ≤ w.heap.size) :
    Calls Tryz.prog 129 #[u, .int .i64 (i : Int), .slice (some ⟨vb, 0, none⟩) 1 1] w fun e w' => ∃ r, e = .returned r ∧ Own w' B 3 1 r (l.length + 1) ((natsI (l.take i ++ x :: l.drop i)).map (.int .i64)) ∧ Below B w w' := by
  have hlen : (l.take i ++ x :: l.drop i).length = l.length + 1 := by simp; omega
  have hcl : ((natsI l).map (Value.int .i64)).length = l.length := by rw [List.length_map, natsI_len]
  obtain ⟨hvr, hvB, -, -, -⟩ := rowIs_own hv
  have hvc : w.cell? ⟨vb, 0, none⟩ = some (.int .i64 (x : Int)) := World.ownsRow.cellAt hv 0 (by omega)
  have hvs : ∀ j v, [Value.int .i64 (x : Int)][j]? = some v → w.cell? ⟨vb, 0 + j, none⟩ = some v := fun j v hj => by
    cases j with
    | zero => simp at hj; subst hj; simpa using hvc
    | succ j => simp at hj
  have h1v : ∀ v ∈ [Value.int .i64 (x : Int)], v.oneCell' = true := fun v hv => by simp at hv; subst hv; rfl
  have hG1 : ∀ (c : Nat), l.length + 1 ≤ grownCap w (l.length + 1) c 3 ∧ grownCap w (l.length + 1) c 3 ≤ maxLen := fun c => ⟨grownCap_ge w _ _ _, grownCap_le_maxLen w _ _ _ (by unfold maxLen; omega)⟩
  have hcells : ∀ (W : World) (g c : Nat) (f : Nat → Value), W.rowIs g 3 c f → B ≤ g → l.length + 1 ≤ c → c ≤ maxLen → (∀ j (hj : j < l.length + 1), f j = .int .i64 (((l.take i ++ x :: l.drop i)[j]'(by omega) : Nat) : Int)) → Own W B 3 1 (.slice (some ⟨g, 0, none⟩) (l.length + 1) c) (l.length + 1) ((natsI (l.take i ++ x :: l.drop i)).map (.int .i64)) := fun W g c f hr hg hc1 hc2 hf => own_rowIs hr hg hc1 hc2 (by rw [List.length_map, natsI_len, hlen]) fun j hj => by
    rw [List.length_map, natsI_len, hlen] at hj
    rw [hf j hj, natsI_el _ j (by omega)]
  have hL : ∀ j (hj : j < l.length + 1), (l.take i ++ x :: l.drop i)[j]'(by omega) = if h : j < i then l[j]'(by omega) else if h2 : j = i then x else l[j - 1]'(by omega) := fun j hj => by
    by_cases h : j < i
    · rw [dif_pos h, List.getElem_append_left (by simp; omega), List.getElem_take]
    · rw [dif_neg h, List.getElem_append_right (by simp; omega)]
      by_cases h2 : j = i
      · subst h2; simp [Nat.min_eq_left hi]
      · rw [dif_neg h2]
        obtain ⟨m, rfl⟩ : ∃ m, j = i + m + 1 := ⟨j - i - 1, by omega⟩
        have e : i + m + 1 - (l.take i).length = m + 1 := by simp [Nat.min_eq_left hi]; omega
        simp only [e, List.getElem_cons_succ, List.getElem_drop]
        congr 1
  rcases hu.noneOrSome with ⟨rfl, h0⟩ | ⟨g, c, rfl⟩
  · have hl0 : l = [] := List.eq_nil_of_length_eq_zero h0
    subst hl0
    obtain rfl : i = 0 := by simpa using hi
    obtain ⟨hg1, hg2⟩ := hG1 0
    refine (Any2.slices_Insert_int_end_grow Tryz.insI none 0 0 vb 0 1 1 [] [.int .i64 (x : Int)] w (by omega) (by omega) (by omega) (by omega) rfl rfl (fun _ => rfl) (fun a h => by cases h) hvs h1v).mono ?_
    rintro e w' ⟨rfl, rfl⟩
    refine ⟨_, rfl, ?_, ((Below.refl _ _).drew).alloc hB _⟩
    have hr := row_alloc w.drew (([] ++ [Value.int .i64 (x : Int)] : List Value).toArray ++ Builtin.zeroCells (Value.int .i64 0).cells (grownCap w (0 + 1) 0 3 - (0 + 1))) 3 (n := grownCap w (0 + 1) 0 3) (by
      simp only [Array.size_append, size_zeroCells]
      simp [Value.cells] at hg1 ⊢; omega)
    refine hcells _ _ _ _ hr hB hg1 hg2 fun j hj => ?_
    obtain rfl : j = 0 := by simp at hj; omega
    simp only [Array.getElem?_append_left (show 0 < ([] ++ [Value.int .i64 (x : Int)] : List Value).toArray.size by simp)]
    rfl
  · obtain ⟨hr, hgB, hnc, hcm, -⟩ := rowIs_own hu
    have hf : ∀ j (hj : j < l.length), w.cell? ⟨g, j, none⟩ = some (.int .i64 ((l[j] : Nat) : Int)) := fun j hj => by
      have h := World.ownsRow.cellAt hu j (by omega)
      rw [List.getElem?_eq_getElem (by rw [hcl]; exact hj), natsI_el l j hj] at h
      simpa using h
    have hcs : ∀ j v, ((natsI l).map (Value.int .i64))[j]? = some v → w.cell? ⟨g, 0 + j, none⟩ = some v := fun j v hj => by
      obtain ⟨h1, rfl⟩ := natsI_at l j v hj
      rw [Nat.zero_add]; exact hf j h1
    have hvg : vb ≠ g := fun e => hne (by rw [e]; rfl)
    have hcm63 : c ≤ 9223372036854775807 := by unfold maxLen at hcm; omega
    by_cases hi2 : i = l.length
    · subst hi2
      by_cases hroom : l.length + 1 ≤ c
      · refine (Any2.slices_Insert_int_end_room Tryz.insI g 0 l.length c vb 0 1 1 [.int .i64 (x : Int)] w (by omega) hroom hcm63 rfl (fun j hj => by rw [hr.cell (by omega)]; rfl) (fun j hj => hr.frozen _) hvs h1v).mono ?_
        rintro e w' ⟨rfl, rfl⟩
        refine ⟨_, rfl, ?_, bel_setCells hgB _ _ _ (Below.refl _ _)⟩
        refine hcells _ _ _ _ (row_setCells _ _ _ _ hr) hgB hroom hcm fun j hj => ?_
        rw [hL j hj]
        by_cases h1 : j < l.length
        · rw [dif_pos h1, if_neg (by omega), hf j h1]; rfl
        · obtain rfl : j = l.length := by omega
          rw [dif_neg h1, dif_pos rfl, if_pos (by simp)]
          simp
      · obtain ⟨hg1, hg2⟩ := hG1 c
        refine (Any2.slices_Insert_int_end_grow Tryz.insI (some ⟨g, 0, none⟩) l.length c vb 0 1 1 ((natsI l).map (.int .i64)) [.int .i64 (x : Int)] w (by omega) hnc (by omega) (by omega) hcl rfl (fun h => by cases h) (fun a h j v hj => by cases h; rw [Addr.add_lit]; exact hcs j v hj) hvs h1v).mono ?_
        rintro e w' ⟨rfl, rfl⟩
        refine ⟨_, rfl, ?_, ((Below.refl _ _).drew).alloc hB _⟩
        have hr := row_alloc w.drew (((natsI l).map (Value.int .i64) ++ [Value.int .i64 (x : Int)] : List Value).toArray ++ Builtin.zeroCells (Value.int .i64 0).cells (grownCap w (l.length + 1) c 3 - (l.length + 1))) 3 (n := grownCap w (l.length + 1) c 3) (by
          simp only [Array.size_append, size_zeroCells, List.size_toArray, List.length_append, hcl]
          simp [Value.cells]; omega)
        refine hcells _ _ _ _ hr hB hg1 hg2 fun j hj => ?_
        rw [hL j hj, Array.getElem?_append_left (by simp [natsI_len]; omega), List.getElem?_toArray]
        by_cases h1 : j < l.length
        · rw [dif_pos h1, List.getElem?_append_left (by rw [hcl]; exact h1), List.getElem?_eq_getElem (by rw [hcl]; exact h1), natsI_el l j h1]; rfl
        · obtain rfl : j = l.length := by omega
          rw [dif_neg h1, dif_pos rfl, List.getElem?_append_right (by rw [hcl]; omega), hcl]
          simp
    · have hil : i < l.length := by omega
      have hdl : (((natsI l).map (Value.int .i64)).drop i).length = l.length - i := by rw [List.length_drop, hcl]
      have hdr : ∀ j, j < l.length - i → (((natsI l).map (Value.int .i64)).drop i)[j]?.getD default = .int .i64 ((l.getD (i + j) 0 : Nat) : Int) := fun j hj => by
        rw [List.getElem?_drop, List.getElem?_eq_getElem (by rw [hcl]; omega), natsI_el l (i + j) (by omega)]
        simp [show i + j < l.length by omega]
      by_cases hroom : l.length + 1 ≤ c
      · refine (Any2.slices_Insert_int_shift Tryz.insI g 0 l.length c i vb 0 1 1 ((natsI l).map (.int .i64)) [.int .i64 (x : Int)] w hil (by omega) hroom hcm63 hvg hcl rfl hcs (fun j hj => by rw [hr.cell (by omega)]; rfl) (fun j hj => hr.frozen _) hvs (ints1 l) h1v 3 3 1 c (shape_row hvr) (shape_row hr) (by omega) (hvr.frozen _) (hvr.frozen _)).mono ?_
        rintro e w' ⟨rfl, rfl⟩
        refine ⟨_, rfl, ?_, bel_setCells hgB _ _ _ (bel_setCells hgB _ _ _ (Below.refl _ _).drew)⟩
        refine hcells _ _ _ _ (row_setCells _ _ _ _ (row_setCells _ _ _ _ hr.drew)) hgB hroom hcm fun j hj => ?_
        rw [hL j hj]
        simp only [hdl, List.length_singleton]
        by_cases h1 : j < i
        · rw [dif_pos h1, if_neg (by omega), if_neg (by omega), hf j (by omega)]; rfl
        · by_cases h2 : j = i
          · subst h2
            rw [dif_neg h1, dif_pos rfl, if_pos (by omega)]
            simp
          · rw [dif_neg h1, dif_neg h2, if_neg (by omega), if_pos (by omega), hdr _ (by omega)]
            have e : i + (j - (0 + (i + 1))) = j - 1 := by omega
            rw [e]; simp [show j - 1 < l.length by omega]
      · obtain ⟨hg1, hg2⟩ := hG1 c
        refine (Any2.slices_Insert_int_grow Tryz.insI g 0 l.length c i vb 0 1 1 ((natsI l).map (.int .i64)) [.int .i64 (x : Int)] w hil (by omega) hnc (by omega) (by omega) hcl rfl hcs hvs (ints1 l) h1v).mono ?_
        rintro e w' ⟨rfl, rfl⟩
        refine ⟨_, rfl, ?_, bel_setCells hB _ _ _ (bel_setCells hB _ _ _ ((Below.refl _ _).alloc hB _).drew).drew⟩
        have hr := row_alloc w ((((natsI l).map (Value.int .i64)).take i).toArray ++ Builtin.zeroCells (Value.int .i64 0).cells (l.length + 1 - i) ++ Builtin.zeroCells (Value.int .i64 0).cells (grownCap w (l.length + 1) c 3 - (l.length + 1))) 3 (n := grownCap w (l.length + 1) c 3) (by
          simp only [Array.size_append, size_zeroCells, List.size_toArray, List.length_take, hcl]
          simp [Value.cells]; omega)
        refine hcells _ _ _ _ (row_setCells _ _ _ _ (row_setCells _ _ _ _ hr.drew).drew) hB hg1 hg2 fun j hj => ?_
        rw [hL j hj]
        simp only [hdl, List.length_singleton]
        by_cases h1 : j < i
        · rw [dif_pos h1, if_neg (by omega), if_neg (by omega), Array.append_assoc, Array.getElem?_append_left (by simp [natsI_len]; omega), List.getElem?_toArray, List.getElem?_take_of_lt h1, List.getElem?_eq_getElem (by rw [hcl]; omega), natsI_el l j (by omega)]; rfl
        · by_cases h2 : j = i
          · subst h2
            rw [dif_neg h1, dif_pos rfl, if_neg (by omega), if_pos (by omega)]
            simp
          · rw [dif_neg h1, dif_neg h2, if_pos (by omega), hdr _ (by omega)]
            have e : i + (j - (i + 1)) = j - 1 := by omega
            rw [e]; simp [show j - 1 < l.length by omega]
theorem insN_min {l : List Nat} {i u : Nat} : l.take (min (i + 1) l.length) ++ u :: l.drop (min (i + 1) l.length) = insN l i u := by
  unfold insN
  by_cases h : i + 1 ≤ l.length
  · rw [Nat.min_eq_left h]
  · rw [Nat.min_eq_right (by omega), List.take_of_length_le (by omega), List.drop_of_length_le (by omega), List.take_of_length_le (by omega), List.drop_of_length_le (by omega)]
set_option maxRecDepth 100000 in
set_option maxHeartbeats 16000000 in
theorem put_any {S : Nat → Prop} {xb tb to n tc v u i : Nat} {rv : Value} {l : List Nat} {w : World} (hv : v < n) (hi : i ≤ 16) (hl : l.length ≤ 16)
    (c1 : w.cell? ⟨xb, 1, none⟩ = some (.slice (some ⟨tb, to, none⟩) n tc)) (c2 : w.cell? ⟨tb, to + v, none⟩ = some rv) (f2 : w.frozen? ⟨tb, to + v, none⟩ = false) (hr : SlI S w .i64 rv (natsI l)) :
    Calls Tryz.prog 116 #[.pointer (some ⟨xb, 0, none⟩), .int .i64 (v : Int), .int .i64 (u : Int), .int .i64 (i : Int)] w fun e w' => ∃ r W, e = .returned (.tuple #[]) ∧ w' = W.setCell ⟨tb, to + v, none⟩ r ∧ Own W w.heap.size 3 1 r (insN l i u).length ((natsI (insN l i u)).map (.int .i64)) ∧ Below w.heap.size w W := by
  have hil : (insN l i u).length = l.length + 1 := by unfold insN; simp; omega
  have HCL := Lib.hid (fun (W : World) (hb : Below w.heap.size w W) => cloneR_any (hr.below hb (Nat.le_refl _)) (by rw [natsI_len]; omega))
  rw [natsI_len] at HCL
  obtain ⟨rva, rvc, rfl⟩ := hr.slice
  rw [natsI_len] at *
  have hvn : (v : Int) < n := by omega
  have hmn : min ((i : Int) + 1) (l.length : Int) = ((min (i + 1) l.length : Nat) : Int) := by omega
  have hwr : IntKind.i64.wrap ((i : Int) + 1) = (i : Int) + 1 := by rw [IntKind.wrap_i64]; omega
  have hml : min (i + 1) l.length ≤ l.length := Nat.min_le_right _ _
  have HMI := Lib.hid (insN_min (l := l) (i := i) (u := u))
  clear hr
  go_enter Tryz.func116, Tryz.ntmps116
  go_wp2
  refine wp_region_late (S := (fun w' => w'.cell? ⟨xb, 1, none⟩ = some (.slice (some ⟨tb, to, none⟩) n tc) ∧ w'.cell? ⟨tb, to + v, none⟩ = some (.slice rva l.length rvc))) (late := [28]) (by kernel_rfl) ?_ (fun hHeld => ?_)
  · first | exact ⟨‹_›, ‹_›⟩ | (simp [*, go_sem])
  have hbd : Below w.heap.size w w.drew := (Below.refl _ _).drew
  generalize w.drew = wd at hbd hHeld ⊢
  obtain ⟨c3, c4⟩ := hHeld
  have hHeld : (fun w' => World.cell? w' ⟨xb, 1, none⟩ = some (.slice (some ⟨tb, to, none⟩) n tc) ∧ World.cell? w' ⟨tb, to + v, none⟩ = some (.slice rva l.length rvc)) wd := ⟨c3, c4⟩
  refine wpLate_take (i := 0) (v := ?v1) (by simp only [List.getElem?_toArray, List.getElem?_cons_zero]; exact rfl) (by kernel_rfl) (by kernel_rfl) (by kernel_rfl) (by intro _ _ _ h; exact h) (Or.inl ⟨by rfl, ?y1⟩) ?_
  case y1 => (intro w _; go_simp; try (with_reducible rfl))
  try simp only [Act.put, List.setIfInBounds_toArray, List.set_cons_zero, List.set_cons_succ]
  refine wpLate_take (i := 1) (v := ?v2) (by simp only [List.getElem?_toArray, List.getElem?_cons_succ, List.getElem?_cons_zero]; exact rfl) (by kernel_rfl) (by kernel_rfl) (by kernel_rfl) (by intro _ _ _ h; exact h) (Or.inl ⟨by rfl, ?y2⟩) ?_
  case y2 => (intro w _; go_simp; try (with_reducible rfl))
  try simp only [Act.put, List.setIfInBounds_toArray, List.set_cons_zero, List.set_cons_succ]
  refine wpLate_take (i := 2) (v := ?v3) (by simp only [List.getElem?_toArray, List.getElem?_cons_succ, List.getElem?_cons_zero]; exact rfl) (by kernel_rfl) (by kernel_rfl) (by kernel_rfl) (by intro _ _ _ h; exact h) (Or.inl ⟨by rfl, ?y3⟩) ?_
  case y3 => (intro w _; go_simp; try (with_reducible rfl))
  try simp only [Act.put, List.setIfInBounds_toArray, List.set_cons_zero, List.set_cons_succ]
  refine wpLate_load (i := 3) (v := ?v4) (by simp only [List.getElem?_toArray, List.getElem?_cons_succ, List.getElem?_cons_zero]; exact rfl) (by kernel_rfl) (by kernel_rfl) (by kernel_rfl) (by kernel_rfl) (by intro _ _ _ h; exact h) (Or.inl ⟨by rfl, ?y4⟩) hHeld ?_
  case y4 => (intro w hSw; (try dsimp only at hSw); go_simp; try (with_reducible rfl))
  try simp only [Act.put, List.setIfInBounds_toArray, List.set_cons_zero, List.set_cons_succ]
  refine wpLate_take (i := 4) (v := ?v5) (by simp only [List.getElem?_toArray, List.getElem?_cons_succ, List.getElem?_cons_zero]; exact rfl) (by kernel_rfl) (by kernel_rfl) (by kernel_rfl) (by intro _ _ _ h; exact h) (Or.inl ⟨by rfl, ?y5⟩) ?_
  case y5 => (intro w _; go_simp; try (with_reducible rfl))
  try simp only [Act.put, List.setIfInBounds_toArray, List.set_cons_zero, List.set_cons_succ]
  refine wpLate_take (i := 5) (v := ?v6) (by simp only [List.getElem?_toArray, List.getElem?_cons_succ, List.getElem?_cons_zero]; exact rfl) (by kernel_rfl) (by kernel_rfl) (by kernel_rfl) (by intro _ _ _ h; exact h) (Or.inl ⟨by rfl, ?y6⟩) ?_
  case y6 => (intro w _; go_simp; try (with_reducible rfl))
  try simp only [Act.put, List.setIfInBounds_toArray, List.set_cons_zero, List.set_cons_succ]
  refine wpLate_take (i := 6) (v := ?v7) (by simp only [List.getElem?_toArray, List.getElem?_cons_succ, List.getElem?_cons_zero]; exact rfl) (by kernel_rfl) (by kernel_rfl) (by kernel_rfl) (by intro _ _ _ h; exact h) (Or.inl ⟨by rfl, ?y7⟩) ?_
  case y7 => (intro w _; go_simp; try (with_reducible rfl))
  try simp only [Act.put, List.setIfInBounds_toArray, List.set_cons_zero, List.set_cons_succ]
  refine wpLate_take (i := 7) (v := ?v8) (by simp only [List.getElem?_toArray, List.getElem?_cons_succ, List.getElem?_cons_zero]; exact rfl) (by kernel_rfl) (by kernel_rfl) (by kernel_rfl) (by intro _ _ _ h; exact h) (Or.inl ⟨by rfl, ?y8⟩) ?_
  case y8 => (intro w _; go_simp; try (with_reducible rfl))
  try simp only [Act.put, List.setIfInBounds_toArray, List.set_cons_zero, List.set_cons_succ]
  refine wpLate_load (i := 8) (v := ?v9) (by simp only [List.getElem?_toArray, List.getElem?_cons_succ, List.getElem?_cons_zero]; exact rfl) (by kernel_rfl) (by kernel_rfl) (by kernel_rfl) (by kernel_rfl) (by intro _ _ _ h; exact h) (Or.inl ⟨by rfl, ?y9⟩) hHeld ?_
  case y9 => (intro w hSw; (try dsimp only at hSw); go_simp; try (with_reducible rfl))
  try simp only [Act.put, List.setIfInBounds_toArray, List.set_cons_zero, List.set_cons_succ]
  refine wpLate_take (i := 9) (v := ?v10) (by simp only [List.getElem?_toArray, List.getElem?_cons_succ, List.getElem?_cons_zero]; exact rfl) (by kernel_rfl) (by kernel_rfl) (by kernel_rfl) (by intro _ _ _ h; exact h) (Or.inl ⟨by rfl, ?y10⟩) ?_
  case y10 => (intro w _; go_simp; try (with_reducible rfl))
  try simp only [Act.put, List.setIfInBounds_toArray, List.set_cons_zero, List.set_cons_succ]
  refine wpLate_take (i := 10) (v := ?v11) (by simp only [List.getElem?_toArray, List.getElem?_cons_succ, List.getElem?_cons_zero]; exact rfl) (by kernel_rfl) (by kernel_rfl) (by kernel_rfl) (by intro _ _ _ h; exact h) (Or.inl ⟨by rfl, ?y11⟩) ?_
  case y11 => (intro w _; go_simp; try (with_reducible rfl))
  try simp only [Act.put, List.setIfInBounds_toArray, List.set_cons_zero, List.set_cons_succ]
  refine wpLate_load (i := 11) (v := ?v12) (by simp only [List.getElem?_toArray, List.getElem?_cons_succ, List.getElem?_cons_zero]; exact rfl) (by kernel_rfl) (by kernel_rfl) (by kernel_rfl) (by kernel_rfl) (by intro _ _ _ h; exact h) (Or.inl ⟨by rfl, ?y12⟩) hHeld ?_
  case y12 => (intro w hSw; (try dsimp only at hSw); go_simp; try (with_reducible rfl))
  try simp only [Act.put, List.setIfInBounds_toArray, List.set_cons_zero, List.set_cons_succ]
  refine wpLate_take (i := 13) (v := ?v13) (by simp only [List.getElem?_toArray, List.getElem?_cons_succ, List.getElem?_cons_zero]; exact rfl) (by kernel_rfl) (by kernel_rfl) (by kernel_rfl) (by intro _ _ _ h; exact h) (Or.inl ⟨by rfl, ?y13⟩) ?_
  case y13 => (intro w _; go_simp; try (with_reducible rfl))
  try simp only [Act.put, List.setIfInBounds_toArray, List.set_cons_zero, List.set_cons_succ]
  refine wpLate_take (i := 14) (v := ?v14) (by simp only [List.getElem?_toArray, List.getElem?_cons_succ, List.getElem?_cons_zero]; exact rfl) (by kernel_rfl) (by kernel_rfl) (by kernel_rfl) (by intro _ _ _ h; exact h) (Or.inl ⟨by rfl, ?y14⟩) ?_
  case y14 => (intro w _; go_simp; try (with_reducible rfl))
  try simp only [Act.put, List.setIfInBounds_toArray, List.set_cons_zero, List.set_cons_succ]
  refine wpLate_take (i := 15) (v := ?v15) (by simp only [List.getElem?_toArray, List.getElem?_cons_succ, List.getElem?_cons_zero]; exact rfl) (by kernel_rfl) (by kernel_rfl) (by kernel_rfl) (by intro _ _ _ h; exact h) (Or.inl ⟨by rfl, ?y15⟩) ?_
  case y15 => (intro w _; go_simp; try (with_reducible rfl))
  try simp only [Act.put, List.setIfInBounds_toArray, List.set_cons_zero, List.set_cons_succ]
  refine wpLate_take (i := 16) (v := ?v16) (by simp only [List.getElem?_toArray, List.getElem?_cons_succ, List.getElem?_cons_zero]; exact rfl) (by kernel_rfl) (by kernel_rfl) (by kernel_rfl) (by intro _ _ _ h; exact h) (Or.inl ⟨by rfl, ?y16⟩) ?_
  case y16 => (intro w _; go_simp; try (with_reducible rfl))
  try simp only [Act.put, List.setIfInBounds_toArray, List.set_cons_zero, List.set_cons_succ]
  refine wpLate_take (i := 17) (v := ?v17) (by simp only [List.getElem?_toArray, List.getElem?_cons_succ, List.getElem?_cons_zero]; exact rfl) (by kernel_rfl) (by kernel_rfl) (by kernel_rfl) (by intro _ _ _ h; exact h) (Or.inl ⟨by rfl, ?y17⟩) ?_
  case y17 => (intro w _; go_simp; try (with_reducible rfl))
  try simp only [Act.put, List.setIfInBounds_toArray, List.set_cons_zero, List.set_cons_succ]
  refine wpLate_load (i := 18) (v := ?v18) (by simp only [List.getElem?_toArray, List.getElem?_cons_succ, List.getElem?_cons_zero]; exact rfl) (by kernel_rfl) (by kernel_rfl) (by kernel_rfl) (by kernel_rfl) (by intro _ _ _ h; exact h) (Or.inl ⟨by rfl, ?y18⟩) hHeld ?_
  case y18 => (intro w hSw; (try dsimp only at hSw); go_simp; try (with_reducible rfl))
  try simp only [Act.put, List.setIfInBounds_toArray, List.set_cons_zero, List.set_cons_succ]
  refine wpLate_take (i := 19) (v := ?v19) (by simp only [List.getElem?_toArray, List.getElem?_cons_succ, List.getElem?_cons_zero]; exact rfl) (by kernel_rfl) (by kernel_rfl) (by kernel_rfl) (by intro _ _ _ h; exact h) (Or.inl ⟨by rfl, ?y19⟩) ?_
  case y19 => (intro w _; go_simp; try (with_reducible rfl))
  try simp only [Act.put, List.setIfInBounds_toArray, List.set_cons_zero, List.set_cons_succ]
  refine wpLate_take (i := 20) (v := ?v20) (by simp only [List.getElem?_toArray, List.getElem?_cons_succ, List.getElem?_cons_zero]; exact rfl) (by kernel_rfl) (by kernel_rfl) (by kernel_rfl) (by intro _ _ _ h; exact h) (Or.inl ⟨by rfl, ?y20⟩) ?_
  case y20 => (intro w _; go_simp; try (with_reducible rfl))
  try simp only [Act.put, List.setIfInBounds_toArray, List.set_cons_zero, List.set_cons_succ]
  refine wpLate_load (i := 21) (v := ?v21) (by simp only [List.getElem?_toArray, List.getElem?_cons_succ, List.getElem?_cons_zero]; exact rfl) (by kernel_rfl) (by kernel_rfl) (by kernel_rfl) (by kernel_rfl) (by intro _ _ _ h; exact h) (Or.inl ⟨by rfl, ?y21⟩) hHeld ?_
  case y21 => (intro w hSw; (try dsimp only at hSw); go_simp; try (with_reducible rfl))
  try simp only [Act.put, List.setIfInBounds_toArray, List.set_cons_zero, List.set_cons_succ]
  refine wpLate_take (i := 22) (v := ?v22) (by simp only [List.getElem?_toArray, List.getElem?_cons_succ, List.getElem?_cons_zero]; exact rfl) (by kernel_rfl) (by kernel_rfl) (by kernel_rfl) (by intro _ _ _ h; exact h) (Or.inl ⟨by rfl, ?y22⟩) ?_
  case y22 => (intro w _; go_simp; try (with_reducible rfl))
  try simp only [Act.put, List.setIfInBounds_toArray, List.set_cons_zero, List.set_cons_succ]
  refine wpLate_take (i := 23) (v := ?v23) (by simp only [List.getElem?_toArray, List.getElem?_cons_succ, List.getElem?_cons_zero]; exact rfl) (by kernel_rfl) (by kernel_rfl) (by kernel_rfl) (by intro _ _ _ h; exact h) (Or.inl ⟨by rfl, ?y23⟩) ?_
  case y23 => (intro w _; go_simp; try (with_reducible rfl))
  try simp only [Act.put, List.setIfInBounds_toArray, List.set_cons_zero, List.set_cons_succ]
  refine wpLate_take (i := 24) (v := ?v24) (by simp only [List.getElem?_toArray, List.getElem?_cons_succ, List.getElem?_cons_zero]; exact rfl) (by kernel_rfl) (by kernel_rfl) (by kernel_rfl) (by intro _ _ _ h; exact h) (Or.inl ⟨by rfl, ?y24⟩) ?_
  case y24 => (intro w _; go_simp; try (with_reducible rfl))
  try simp only [Act.put, List.setIfInBounds_toArray, List.set_cons_zero, List.set_cons_succ]
  refine wpLate_two (i := 12) (j := 25) (by kernel_rfl) (by simp only [List.getElem?_toArray, List.getElem?_cons_succ, List.getElem?_cons_zero]; exact rfl) (by simp only [List.getElem?_toArray, List.getElem?_cons_succ, List.getElem?_cons_zero]; exact rfl) (by kernel_rfl) (by kernel_rfl) (fun K hK => ?a25) (fun K hK => ?b25)
  case a25 =>
    go_simp
    refine (HCL.out wd hbd).mono ?_
    rintro e wn ⟨uc, rfl, huc, hbn⟩
    try (have hne : uc.ownBlock ≠ some pb := fun e => by have := (huc.lt pb e).1; omega)
    try (have hpo := hpo.below hbn (Nat.le_refl _))
    try (have hpl := Nat.lt_of_lt_of_le hpl hbn.size)
    have huc := huc.weak hbd.size
    have hbd := hbd.trans (hbn.mono hbd.size)
    have c3 := (hbn.cell (cell_lt c3)).trans c3
    have c4 := (hbn.cell (cell_lt c4)).trans c4
    obtain ⟨wd, rfl⟩ : ∃ wx : World, wx = wn := ⟨_, rfl⟩
    clear hbn
    try dsimp only
    refine hK.out _ _ ?h26 (fun hHeld => ?_)
    case h26 => first | exact ⟨‹_›, ‹_›⟩ | (simp [*, go_sem])
    clear hK K
    try simp only [Act.put, List.setIfInBounds_toArray, List.set_cons_zero, List.set_cons_succ]
    refine wpLate_one (i := 25) (by kernel_rfl) (by simp only [List.getElem?_toArray, List.getElem?_cons_succ, List.getElem?_cons_zero]; exact rfl) (by kernel_rfl) (fun K hK => ?_)
    go_simp
    have hbn : Below wd.heap.size wd (wd.alloc (.cells #[.int .i64 (u : Int)] 3)) := (Below.refl _ _).alloc (Nat.le_refl _) _
    try (have hne : uc.ownBlock ≠ some wd.heap.size := fun e => by have := (huc.lt _ e).2; omega)
    have hpo := own_new wd w.heap.size 3 (.int .i64 (u : Int)) hbd.size
    have hpl : wd.heap.size < (wd.alloc (.cells #[.int .i64 (u : Int)] 3)).heap.size := by simp
    try (have huc := huc.below hbn (Nat.le_refl _))
    generalize (wd.alloc (.cells #[.int .i64 (u : Int)] 3)) = wn at *
    have hbd := hbd.trans (hbn.mono hbd.size)
    have c3 := (hbn.cell (cell_lt c3)).trans c3
    have c4 := (hbn.cell (cell_lt c4)).trans c4
    clear hbn
    first | generalize wd.heap.size = pb at hpo hpl hne ⊢ | generalize wd.heap.size = pb at hpo hpl ⊢
    obtain ⟨wd, rfl⟩ : ∃ wx : World, wx = wn := ⟨_, rfl⟩
    try dsimp only
    refine hK.out _ _ ?h28 (fun hHeld => ?_)
    case h28 => first | exact ⟨‹_›, ‹_›⟩ | (simp [*, go_sem])
    clear hK K
    try simp only [Act.put, List.setIfInBounds_toArray, List.set_cons_zero, List.set_cons_succ]
    refine wpLate_one (i := 26) (by kernel_rfl) (by simp only [List.getElem?_toArray, List.getElem?_cons_succ, List.getElem?_cons_zero]; exact rfl) (by kernel_rfl) (fun K hK => ?_)
    go_simp
    refine (insI_any huc hpo hne hml (by omega) hbd.size).mono ?_
    rintro e wn ⟨r, rfl, hr, hbn⟩
    rw [HMI.out, ← hil] at hr
    obtain ⟨ra, rc, rfl⟩ := hr.isSlice
    have hbd := hbd.trans hbn
    have c3 := (hbd.cell (cell_lt c1)).trans c1
    have c4 := (hbd.cell (cell_lt c2)).trans c2
    have f4 := (hbd.frozen (cell_lt c2)).trans f2
    obtain ⟨wd, rfl⟩ : ∃ wx : World, wx = wn := ⟨_, rfl⟩
    clear hbn huc hpo hne
    try dsimp only
    refine hK.out _ _ ?h30 (fun hHeld => ?_)
    case h30 => first | exact ⟨‹_›, ‹_›⟩ | (simp [*, go_sem])
    clear hK K
    try simp only [Act.put, List.setIfInBounds_toArray, List.set_cons_zero, List.set_cons_succ]
    refine wpLate_take (i := 27) (v := ?v31) (by simp only [List.getElem?_toArray, List.getElem?_cons_succ, List.getElem?_cons_zero]; exact rfl) (by kernel_rfl) (by kernel_rfl) (by kernel_rfl) (by intro _ _ _ h; exact h) (Or.inl ⟨by rfl, ?y31⟩) ?_
    case y31 => (intro w _; go_simp; try (with_reducible rfl))
    try simp only [Act.put, List.setIfInBounds_toArray, List.set_cons_zero, List.set_cons_succ]
    refine wpLate_late (i := 28) (by kernel_rfl) (by simp only [List.getElem?_toArray, List.getElem?_cons_succ, List.getElem?_cons_zero]; exact rfl) (by kernel_rfl) (fun K hK => ?_)
    go_simp
    go_simp
    try dsimp only
    refine hK.out _ _ ?_
    clear hK K
    try simp only [Act.put, List.setIfInBounds_toArray, List.set_cons_zero, List.set_cons_succ]
    refine wpLate_done (by kernel_rfl) ?_ _
    go_end0
    exact ⟨_, _, rfl, rfl, by rw [hil] at hr ⊢; exact hr, hbd⟩
  case b25 =>
    go_simp
    have hbn : Below wd.heap.size wd (wd.alloc (.cells #[.int .i64 (u : Int)] 3)) := (Below.refl _ _).alloc (Nat.le_refl _) _
    try (have hne : uc.ownBlock ≠ some wd.heap.size := fun e => by have := (huc.lt _ e).2; omega)
    have hpo := own_new wd w.heap.size 3 (.int .i64 (u : Int)) hbd.size
    have hpl : wd.heap.size < (wd.alloc (.cells #[.int .i64 (u : Int)] 3)).heap.size := by simp
    try (have huc := huc.below hbn (Nat.le_refl _))
    generalize (wd.alloc (.cells #[.int .i64 (u : Int)] 3)) = wn at *
    have hbd := hbd.trans (hbn.mono hbd.size)
    have c3 := (hbn.cell (cell_lt c3)).trans c3
    have c4 := (hbn.cell (cell_lt c4)).trans c4
    clear hbn
    first | generalize wd.heap.size = pb at hpo hpl hne ⊢ | generalize wd.heap.size = pb at hpo hpl ⊢
    obtain ⟨wd, rfl⟩ : ∃ wx : World, wx = wn := ⟨_, rfl⟩
    try dsimp only
    refine hK.out _ _ ?h34 (fun hHeld => ?_)
    case h34 => first | exact ⟨‹_›, ‹_›⟩ | (simp [*, go_sem])
    clear hK K
    try simp only [Act.put, List.setIfInBounds_toArray, List.set_cons_zero, List.set_cons_succ]
    refine wpLate_one (i := 12) (by kernel_rfl) (by simp only [List.getElem?_toArray, List.getElem?_cons_succ, List.getElem?_cons_zero]; exact rfl) (by kernel_rfl) (fun K hK => ?_)
    go_simp
    refine (HCL.out wd hbd).mono ?_
    rintro e wn ⟨uc, rfl, huc, hbn⟩
    try (have hne : uc.ownBlock ≠ some pb := fun e => by have := (huc.lt pb e).1; omega)
    try (have hpo := hpo.below hbn (Nat.le_refl _))
    try (have hpl := Nat.lt_of_lt_of_le hpl hbn.size)
    have huc := huc.weak hbd.size
    have hbd := hbd.trans (hbn.mono hbd.size)
    have c3 := (hbn.cell (cell_lt c3)).trans c3
    have c4 := (hbn.cell (cell_lt c4)).trans c4
    obtain ⟨wd, rfl⟩ : ∃ wx : World, wx = wn := ⟨_, rfl⟩
    clear hbn
    try dsimp only
    refine hK.out _ _ ?h36 (fun hHeld => ?_)
    case h36 => first | exact ⟨‹_›, ‹_›⟩ | (simp [*, go_sem])
    clear hK K
    try simp only [Act.put, List.setIfInBounds_toArray, List.set_cons_zero, List.set_cons_succ]
    refine wpLate_one (i := 26) (by kernel_rfl) (by simp only [List.getElem?_toArray, List.getElem?_cons_succ, List.getElem?_cons_zero]; exact rfl) (by kernel_rfl) (fun K hK => ?_)
    go_simp
    refine (insI_any huc hpo hne hml (by omega) hbd.size).mono ?_
    rintro e wn ⟨r, rfl, hr, hbn⟩
    rw [HMI.out, ← hil] at hr
    obtain ⟨ra, rc, rfl⟩ := hr.isSlice
    have hbd := hbd.trans hbn
    have c3 := (hbd.cell (cell_lt c1)).trans c1
    have c4 := (hbd.cell (cell_lt c2)).trans c2
    have f4 := (hbd.frozen (cell_lt c2)).trans f2
    obtain ⟨wd, rfl⟩ : ∃ wx : World, wx = wn := ⟨_, rfl⟩
    clear hbn huc hpo hne
    try dsimp only
    refine hK.out _ _ ?h38 (fun hHeld => ?_)
    case h38 => first | exact ⟨‹_›, ‹_›⟩ | (simp [*, go_sem])
    clear hK K
    try simp only [Act.put, List.setIfInBounds_toArray, List.set_cons_zero, List.set_cons_succ]
    refine wpLate_take (i := 27) (v := ?v39) (by simp only [List.getElem?_toArray, List.getElem?_cons_succ, List.getElem?_cons_zero]; exact rfl) (by kernel_rfl) (by kernel_rfl) (by kernel_rfl) (by intro _ _ _ h; exact h) (Or.inl ⟨by rfl, ?y39⟩) ?_
    case y39 => (intro w _; go_simp; try (with_reducible rfl))
    try simp only [Act.put, List.setIfInBounds_toArray, List.set_cons_zero, List.set_cons_succ]
    refine wpLate_late (i := 28) (by kernel_rfl) (by simp only [List.getElem?_toArray, List.getElem?_cons_succ, List.getElem?_cons_zero]; exact rfl) (by kernel_rfl) (fun K hK => ?_)
    go_simp
    go_simp
    try dsimp only
    refine hK.out _ _ ?_
    clear hK K
    try simp only [Act.put, List.setIfInBounds_toArray, List.set_cons_zero, List.set_cons_succ]
    refine wpLate_done (by kernel_rfl) ?_ _
    go_end0
    exact ⟨_, _, rfl, rfl, by rw [hil] at hr ⊢; exact hr, hbd⟩
open Classical in
/-- The turns that the search by faces finds, as they stand. -/
noncomputable def rawI : List (Nat × Nat) → List (List Nat) → List (List (List Nat))
  | [], t => [t]
  | e :: es, t => (List.range (max 1 (t.getD e.1 []).length)).flatMap fun i => (List.range (max 1 (t.getD e.2 []).length)).flatMap fun k => if OkI t e.1 e.2 i k then rawI es (stepE t e.1 e.2 i k) else []
theorem srchI_raw : ∀ (es : List (Nat × Nat)) (t : List (List Nat)), srchI es t = (rawI es t).map fun x => x.map rotL
  | [], t => rfl
  | e :: es, t => by
    rw [srchI, rawI, List.map_flatMap]
    refine congrArg (fun f => List.flatMap f _) (funext fun i => ?_)
    rw [List.map_flatMap]
    refine congrArg (fun f => List.flatMap f _) (funext fun k => ?_)
    split
    · exact srchI_raw es _
    · rfl
theorem rawI_mem {n : Nat} : ∀ (es L : List (Nat × Nat)) (t : List (List Nat)), EdgeL n (L ++ es) → HasE n t L → ∀ x ∈ rawI es t, HasE n x (L ++ es)
  | [], L, t, hE, h, x, hx => by
    rw [rawI, List.mem_singleton] at hx
    rw [hx, List.append_nil]; exact h
  | e :: es, L, t, hE, h, x, hx => by
    rw [rawI] at hx
    simp only [List.mem_flatMap] at hx
    obtain ⟨i, -, k, -, hx⟩ := hx
    split at hx
    · have := rawI_mem es _ _ hE.next (h.step hE i k) x hx
      simpa using this
    · simp at hx
/-- A function that takes a system of turns and keeps its own memory. -/
structure EachT {σ : Type} (P : Program) (N cb db : Nat) (St : (Nat → Prop) → σ → World → Prop) (ef : List (List Nat) → σ → σ) (K : List (List Nat) → Prop) : Prop where
  call : ∀ (F : Nat → Prop) (s : σ) (tv : Value) (t : List (List Nat)) (w : World), St F s w → SlR (fun b => b < w.heap.size ∧ ¬ F b) w tv (t.map natsI) → (∀ b, F b → b < w.heap.size) → K t →
    Calls P N #[tv, .pointer (some ⟨cb, 0, none⟩), .pointer (some ⟨db, 0, none⟩)] w fun e w' => ∃ F' : Nat → Prop, e = .returned (.tuple #[]) ∧ St F' (ef t s) w' ∧ (∀ b, F' b → F b ∨ w.heap.size ≤ b) ∧ (∀ b, F' b → b < w'.heap.size) ∧ Keeps F w w'
  ent : ∀ (args : Array Value) (w : World), (callFunc N args).run P w = .ok (.enter N args) w
  keep : ∀ (F : Nat → Prop) (s : σ) (w w' : World), St F s w → (∀ b, F b → w'.heap[b]? = w.heap[b]?) → St F s w'
/-- The turns in memory. -/
structure TurnAt (w : World) (tb to n : Nat) (fv : Nat → Value) (F : Nat → Prop) (t : List (List Nat)) : Prop where
  cell : ∀ a, a < n → w.cell? ⟨tb, to + a, none⟩ = some (fv a)
  fz : ∀ a, a < n → w.frozen? ⟨tb, to + a, none⟩ = false
  row : ∀ a, a < n → SlI (fun b => b < w.heap.size ∧ ¬ F b ∧ b ≠ tb) w .i64 (fv a) (natsI (t.getD a []))
/-- All but what the function keeps is as it was. -/
structure Grn (w w' : World) (F F' : Nat → Prop) (tb to n : Nat) : Prop where
  keeps : Keeps (fun b => F b ∨ b = tb) w w'
  cell : ∀ a, a < n → w'.cell? ⟨tb, to + a, none⟩ = w.cell? ⟨tb, to + a, none⟩
  fz : ∀ a, a < n → w'.frozen? ⟨tb, to + a, none⟩ = w.frozen? ⟨tb, to + a, none⟩
  sub : ∀ b, F' b → F b ∨ w.heap.size ≤ b
  lt : ∀ b, F' b → b < w'.heap.size
theorem Grn.refl {w : World} {F : Nat → Prop} {tb to n : Nat} (hF : ∀ b, F b → b < w.heap.size) : Grn w w F F tb to n := ⟨⟨rfl, rfl, rfl, Nat.le_refl _, fun _ _ _ => rfl⟩, fun _ _ => rfl, fun _ _ => rfl, fun _ h => .inl h, hF⟩
theorem Grn.trans {w w1 w2 : World} {F F1 F2 : Nat → Prop} {tb to n : Nat} (h : Grn w w1 F F1 tb to n) (k : Grn w1 w2 F1 F2 tb to n) : Grn w w2 F F2 tb to n :=
  ⟨h.keeps.trans k.keeps fun x hx hg => by
      rcases hg with hg | hg
      · rcases h.sub x hg with h1 | h1
        · exact .inl h1
        · omega
      · exact .inr hg,
    fun a ha => (k.cell a ha).trans (h.cell a ha), fun a ha => (k.fz a ha).trans (h.fz a ha),
    fun b hb => by
      rcases k.sub b hb with h1 | h1
      · exact h.sub b h1
      · exact .inr (Nat.le_trans h.keeps.size h1),
    k.lt⟩
theorem Grn.at_ {w w' : World} {F F' : Nat → Prop} {tb to n : Nat} (h : Grn w w' F F' tb to n) {p : Addr} {v : Value} (hc : w.cell? p = some v) (h1 : ¬ F p.block) (h2 : p.block ≠ tb) : w'.cell? p = some v := by
  rw [cell_heap (h.keeps.block p.block (cell_lt hc) (fun hc => by rcases hc with h3 | h3; exact h1 h3; exact h2 h3))]; exact hc
theorem TurnAt.grn {w w' : World} {F F' : Nat → Prop} {tb to n : Nat} {fv : Nat → Value} {t : List (List Nat)} (h : TurnAt w tb to n fv F t) (g : Grn w w' F F' tb to n) : TurnAt w' tb to n fv F' t :=
  ⟨fun a ha => (g.cell a ha).trans (h.cell a ha), fun a ha => (g.fz a ha).trans (h.fz a ha), fun a ha => ((h.row a ha).keep fun b hb => g.keeps.block b hb.1 (fun hc => by rcases hc with h3 | h3; exact hb.2.1 h3; exact hb.2.2 h3)).weak fun b hb => ⟨Nat.lt_of_lt_of_le hb.1 g.keeps.size, fun hf => by
    rcases g.sub b hf with h1 | h1
    · exact hb.2.1 h1
    · omega, hb.2.2⟩⟩
theorem TurnAt.slR {w : World} {F : Nat → Prop} {tb to n tc : Nat} {fv : Nat → Value} {t : List (List Nat)} (h : TurnAt w tb to n fv F t) (hl : t.length = n) (hc : n ≤ tc) (hc2 : tc ≤ 9223372036854775807) (h1 : tb < w.heap.size) (h2 : ¬ F tb) : SlR (fun b => b < w.heap.size ∧ ¬ F b) w (.slice (some ⟨tb, to, none⟩) n tc) (t.map natsI) :=
  ⟨some ⟨tb, to, none⟩, tb, to, tc, fv, by rw [List.length_map, hl], by rw [List.length_map, hl]; exact ⟨hc, hc2⟩, fun _ => ⟨rfl, h1, h2⟩, fun i hi => by
    rw [List.length_map] at hi
    have hin : i < n := by omega
    refine ⟨h.cell i hin, ?_⟩
    have := (h.row i hin).weak (S' := fun b => b < w.heap.size ∧ ¬ F b) fun b hb => ⟨hb.1, hb.2.1⟩
    simpa [hi] using this⟩
def upV (fv : Nat → Value) (v : Nat) (r : Value) : Nat → Value := fun a => if a = v then r else fv a
theorem addr_ne {tb to a v : Nat} (h : a ≠ v) : (⟨tb, to + v, none⟩ : Addr) ≠ ⟨tb, to + a, none⟩ := fun e => by
  have := congrArg Addr.off e
  simp at this; omega
theorem heap_set_o {W : World} {tb o b : Nat} {r : Value} (h : b ≠ tb) : (W.setCell ⟨tb, o, none⟩ r).heap[b]? = W.heap[b]? := Below.heap_setCell _ _ _ _ (fun e => h (by simpa [eq_comm] using e))
theorem TurnAt.put {w W : World} {F : Nat → Prop} {tb to n v : Nat} {fv : Nat → Value} {t : List (List Nat)} {r : Value} {row : List Nat} (h : TurnAt w tb to n fv F t) (hb : Below w.heap.size w W)
    (hr : SlI (fun b => w.heap.size ≤ b ∧ b < W.heap.size) W .i64 r (natsI row)) (hv : v < n) (hl : t.length = n) (hF : ∀ b, F b → b < w.heap.size) (ht : tb < w.heap.size) :
    TurnAt (W.setCell ⟨tb, to + v, none⟩ r) tb to n (upV fv v r) F (t.set v row) := by
  have hc : ∀ a, a < n → W.cell? ⟨tb, to + a, none⟩ = some (fv a) := fun a ha => (hb.cell (cell_lt (h.cell a ha))).trans (h.cell a ha)
  refine ⟨fun a ha => ?_, fun a ha => ?_, fun a ha => ?_⟩
  · by_cases e : a = v
    · subst e
      rw [World.cell?_setCell_same _ _ _ (hc a ha), upV, if_pos rfl]
    · rw [World.cell?_setCell_other _ _ _ _ (addr_ne e), hc a ha, upV, if_neg e]
  · rw [World.frozen?_setCell]
    exact (hb.frozen ht).trans (h.fz a ha)
  · have hsz : (W.setCell ⟨tb, to + v, none⟩ r).heap.size = W.heap.size := by simp
    by_cases e : a = v
    · subst e
      rw [upV, if_pos rfl, getD_set t a row (by omega) a, if_pos rfl]
      exact (hr.keep fun b hb2 => heap_set_o (by omega)).weak fun b hb2 => ⟨by rw [hsz]; exact hb2.2, fun hf => by have := hF b hf; omega, by omega⟩
    · rw [upV, if_neg e, getD_set t v row (by omega) a, if_neg e]
      exact (((h.row a ha).below hb (Nat.le_refl _)).keep fun b hb2 => heap_set_o hb2.2.2).weak fun b hb2 => ⟨by rw [hsz]; exact Nat.lt_of_lt_of_le hb2.1 hb.size, hb2.2⟩
theorem keeps_put {w W : World} {F : Nat → Prop} {tb o : Nat} {r : Value} (hb : Below w.heap.size w W) : Keeps (fun b => F b ∨ b = tb) w (W.setCell ⟨tb, o, none⟩ r) :=
  (Keeps.ofBelow _ hb).trans (Keeps.set (F := fun b => F b ∨ b = tb) (.inr rfl) r) fun _ _ h => h
/-- The two rows are laid back. -/
theorem Grn.back {w w2 w3 : World} {F F' : Nat → Prop} {tb to n u v : Nat} {fv : Nat → Value} {r1 r2 : Value} {t t2 : List (List Nat)} (h : TurnAt w tb to n fv F t) (hk : Keeps (fun b => F b ∨ b = tb) w w2)
    (h2 : TurnAt w2 tb to n (upV (upV fv u r1) v r2) F t2) (g : Grn w2 w3 F F' tb to n) (hu : u < n) (hv : v < n) :
    Grn w ((w3.setCell ⟨tb, to + u, none⟩ (fv u)).setCell ⟨tb, to + v, none⟩ (fv v)) F F' tb to n := by
  have h3 := h2.grn g
  refine ⟨?_, fun a ha => ?_, fun a ha => ?_, fun b hb => ?_, fun b hb => ?_⟩
  · have k1 : Keeps (fun b => F b ∨ b = tb) w w3 := hk.trans g.keeps fun _ _ h => h
    have k2 := k1.trans (Keeps.set (w := w3) (F := fun b => F b ∨ b = tb) (a := ⟨tb, to + u, none⟩) (.inr rfl) (fv u)) fun _ _ h => h
    exact k2.trans (Keeps.set (F := fun b => F b ∨ b = tb) (a := ⟨tb, to + v, none⟩) (.inr rfl) (fv v)) fun _ _ h => h
  · rw [h.cell a ha]
    by_cases e : a = v
    · subst e
      obtain ⟨x, hx⟩ := cell?_setCell_some (p := ⟨tb, to + u, none⟩) (x := fv u) (h3.cell a ha)
      rw [World.cell?_setCell_same _ _ _ hx]
    · rw [World.cell?_setCell_other _ _ _ _ (addr_ne e)]
      by_cases e2 : a = u
      · subst e2
        rw [World.cell?_setCell_same _ _ _ (h3.cell a ha)]
      · rw [World.cell?_setCell_other _ _ _ _ (addr_ne e2), h3.cell a ha, upV, if_neg e, upV, if_neg e2]
  · rw [World.frozen?_setCell, World.frozen?_setCell, h3.fz a ha, h.fz a ha]
  · rcases g.sub b hb with h1 | h1
    · exact .inl h1
    · exact .inr (Nat.le_trans hk.size h1)
  · have := g.lt b hb
    simpa using this
/-- The search's own cells. -/
structure BoxE (w : World) (F : Nat → Prop) (xb tb to n tc N cb db : Nat) (ea : Option Addr) (ec : Nat) (E : List (Nat × Nat)) : Prop where
  c0 : w.cell? ⟨xb, 0, none⟩ = some (.slice ea E.length ec)
  c1 : w.cell? ⟨xb, 1, none⟩ = some (.slice (some ⟨tb, to, none⟩) n tc)
  c2 : w.cell? ⟨xb, 2, none⟩ = some (.func (Fn.func N) #[] #[.pointer (some ⟨cb, 0, none⟩), .pointer (some ⟨db, 0, none⟩)])
  nx : ¬ F xb ∧ xb ≠ tb
  ed : ∀ j (hj : j < E.length), ∃ eb, ea = some ⟨eb, 0, none⟩ ∧ ¬ F eb ∧ eb ≠ tb ∧ w.cell? ⟨eb, 2 * j, none⟩ = some (.int .i64 (E[j].1 : Int)) ∧ w.cell? ⟨eb, 2 * j + 1, none⟩ = some (.int .i64 (E[j].2 : Int))
  tt : n ≤ tc ∧ tc ≤ 9223372036854775807 ∧ tb < w.heap.size ∧ ¬ F tb
theorem BoxE.move {w w' : World} {F F' : Nat → Prop} {xb tb to n tc N cb db : Nat} {ea : Option Addr} {ec : Nat} {E : List (Nat × Nat)} (h : BoxE w F xb tb to n tc N cb db ea ec E) (k : Keeps (fun b => F b ∨ b = tb) w w') (hs : ∀ b, F' b → F b ∨ w.heap.size ≤ b) : BoxE w' F' xb tb to n tc N cb db ea ec E := by
  have hk : ∀ {p : Addr} {v : Value}, w.cell? p = some v → ¬ F p.block → p.block ≠ tb → w'.cell? p = some v := fun hc h1 h2 => by
    rw [cell_heap (k.block _ (cell_lt hc) (fun hc => by rcases hc with h3 | h3; exact h1 h3; exact h2 h3))]; exact hc
  have hn : ∀ {b : Nat}, ¬ F b → b < w.heap.size → ¬ F' b := fun h1 h2 hf => by
    rcases hs _ hf with h3 | h3
    · exact h1 h3
    · omega
  refine ⟨hk h.c0 h.nx.1 h.nx.2, hk h.c1 h.nx.1 h.nx.2, hk h.c2 h.nx.1 h.nx.2, ⟨hn h.nx.1 (cell_lt h.c0), h.nx.2⟩, fun j hj => ?_, h.tt.1, h.tt.2.1, Nat.lt_of_lt_of_le h.tt.2.2.1 k.size, hn h.tt.2.2.2 h.tt.2.2.1⟩
  obtain ⟨eb, e1, e2, e3, e4, e5⟩ := h.ed j hj
  exact ⟨eb, e1, hn e2 (cell_lt e4), e3, hk e4 e2 e3, hk e5 e2 e3⟩
end Go.Proofs.YtdbanndcdbikmaaGreatDoor
