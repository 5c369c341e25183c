/- Marks written into a slice of slices and read again, exactly; equal results. -/
import Derived.Test.YtdbanndcdbikmaaDoorLaws
namespace Go.Proofs.YtdbanndcdbikmaaDoor
open Go.RowKit
/-- The marks k, k + 1, .. -/
def marksL (k : Int) (n : Nat) : List Int := (List.range n).map fun i : Nat => k + (i : Int)
theorem marksL_len (k : Int) (n : Nat) : (marksL k n).length = n := by simp [marksL]
theorem marksL_get {k : Int} {n i : Nat} (h : i < (marksL k n).length) : (marksL k n)[i] = k + (i : Int) := by simp [marksL]
/-- The first j are marked, the others are as they were. -/
def marked (k : Int) (xs : List Int) (j : Nat) : List Int := marksL k j ++ xs.drop j
theorem marked_zero (k : Int) (xs : List Int) : marked k xs 0 = xs := by simp [marked, marksL]
theorem marked_all (k : Int) (xs : List Int) : marked k xs xs.length = marksL k xs.length := by simp [marked]
theorem marksL_succ (k : Int) (n : Nat) : marksL k (n + 1) = marksL k n ++ [k + (n : Int)] := by simp [marksL, List.range_succ]
theorem marked_set {k : Int} {xs : List Int} {j : Nat} (hj : j < xs.length) : (marked k xs j).set j (k + (j : Int)) = marked k xs (j + 1) := by
  unfold marked
  rw [List.drop_eq_getElem_cons hj, List.set_append, if_neg (by rw [marksL_len]; omega), marksL_len, Nat.sub_self, List.set_cons_zero, marksL_succ]
  simp
/-- Slices in blocks of their own each. -/
def ApartL (vs : List Value) : Prop := ∀ i j (hi : i < vs.length) (hj : j < vs.length) (b : Nat), vs[i].ownBlock = some b → vs[j].ownBlock = some b → i = j
theorem ApartL.nil : ApartL [] := fun i j hi => by simp at hi
theorem ApartL.snoc {vs : List Value} {u : Value} {N : Nat} (h : ApartL vs) (h1 : ∀ i (hi : i < vs.length) b, vs[i].ownBlock = some b → b < N) (h2 : ∀ b, u.ownBlock = some b → N ≤ b) : ApartL (vs ++ [u]) := by
  intro i j hi hj b hb1 hb2
  rw [List.length_append] at hi hj
  simp only [List.length_singleton] at hi hj
  by_cases ei : i < vs.length <;> by_cases ej : j < vs.length
  · rw [List.getElem_append_left ei] at hb1; rw [List.getElem_append_left ej] at hb2; exact h i j ei ej b hb1 hb2
  · rw [List.getElem_append_left ei] at hb1; rw [List.getElem_append_right (by omega)] at hb2
    have e : j - vs.length = 0 := by omega
    simp only [e, List.getElem_cons_zero] at hb2
    have := h1 i ei b hb1; have := h2 b hb2; omega
  · rw [List.getElem_append_left ej] at hb2; rw [List.getElem_append_right (by omega)] at hb1
    have e : i - vs.length = 0 := by omega
    simp only [e, List.getElem_cons_zero] at hb1
    have := h1 j ej b hb2; have := h2 b hb1; omega
  · omega
/-- u is an own slice of own rows; all blocks lie from B on, below C; the rows lie apart from the outer array. -/
def OwnR (w : World) (B C : Nat) (EO EI : TypeId) (u : Value) (g : List (List Int)) : Prop :=
  ∃ vs : List Value, vs.length = g.length ∧ Own w B EO 1 u g.length vs ∧ (∀ b, u.ownBlock = some b → b < C) ∧ ApartL vs ∧
    ∀ i (h : i < g.length) (h2 : i < vs.length), Own w B EI 1 vs[i] g[i].length (g[i].map (.int .i64)) ∧ (∀ b, vs[i].ownBlock = some b → b < C ∧ u.ownBlock ≠ some b)
theorem OwnR.below {w w' : World} {B C B1 : Nat} {EO EI : TypeId} {u : Value} {g : List (List Int)} (h : OwnR w B C EO EI u g) (hb : Below B1 w w') (hB : w.heap.size ≤ B1) : OwnR w' B C EO EI u g := by
  obtain ⟨vs, h1, h2, h3, hap, h4⟩ := h
  exact ⟨vs, h1, h2.below hb hB, h3, hap, fun i hi hi2 => ⟨(h4 i hi hi2).1.below hb hB, (h4 i hi hi2).2⟩⟩
/-- It reads as rows. -/
theorem OwnR.rows {w : World} {B C : Nat} {EO EI : TypeId} {u : Value} {g : List (List Int)} (h : OwnR w B C EO EI u g) (hs : SmallR g 1048576) : SlR (fun b => B ≤ b ∧ b < C) w u g := by
  obtain ⟨vs, h1, h2, h3, hap, h4⟩ := h
  have hl : g.length ≤ 1048576 := by have := hs.1; omega
  have hr : RowsTo (fun b => B ≤ b ∧ b < C) w vs g := ⟨by omega, fun i hi hi2 => by
    have := (h4 i hi2 hi).1.ints (by have := hs.2 i hi2 hi2; omega)
    exact this.weak (fun b hb => ⟨(h4 i hi2 hi).1.ge b hb, ((h4 i hi2 hi).2 b hb).1⟩)⟩
  exact hr.rows h1 (fun b hb => ⟨h2.ge b hb, h3 b hb⟩) h2 (by omega)
theorem own_none_some {w : World} {B : Nat} {E : TypeId} {size : Nat} {v : Value} {n : Nat} {xs : List Value} (h : Own w B E size v n xs) : (v = .slice none 0 0 ∧ n = 0) ∨ ∃ g c, v = .slice (some ⟨g, 0, none⟩) n c := by
  rcases h.2 with ⟨rfl, rfl⟩ | ⟨g, cap, cur, rfl, _⟩
  · exact .inl ⟨rfl, rfl⟩
  · exact .inr ⟨g, cap, rfl⟩
/-- Only blocks from B on, below C, may have changed. -/
structure Between (B C : Nat) (w w' : World) : Prop where
  os : w'.os = w.os
  tape : w'.tape = w.tape
  output : w'.output = w.output
  size : w.heap.size ≤ w'.heap.size
  block : ∀ b, b < w.heap.size → (b < B ∨ C ≤ b) → w'.heap[b]? = w.heap[b]?
theorem Between.refl (B C : Nat) (w : World) : Between B C w w := ⟨rfl, rfl, rfl, Nat.le_refl _, fun _ _ _ => rfl⟩
theorem Between.trans {B C : Nat} {a b c : World} (h : Between B C a b) (k : Between B C b c) : Between B C a c :=
  ⟨k.os.trans h.os, k.tape.trans h.tape, k.output.trans h.output, Nat.le_trans h.size k.size, fun x hx hB => (k.block x (Nat.lt_of_lt_of_le hx h.size) hB).trans (h.block x hx hB)⟩
theorem Between.below {B C : Nat} {w0 w w' : World} {B0 : Nat} (h : Between B C w w') (hb : Below B0 w0 w) (hB : B0 ≤ B) (hs : B0 ≤ w.heap.size) : Below B0 w0 w' :=
  hb.trans ⟨h.os, h.tape, h.output, h.size, fun b hb => h.block b (by omega) (.inl (by omega))⟩
theorem KeptBut.between {w w' : World} {row : Option Nat} {B C : Nat} (h : KeptBut w w' row) (hr : ∀ b, row = some b → B ≤ b ∧ b < C) : Between B C w w' :=
  ⟨h.1, h.2.1, h.2.2.1, h.2.2.2.1, fun b hb hB => h.2.2.2.2 b hb (fun e => by have := hr b e.symm; omega)⟩
theorem SlI.between {S : Nat → Prop} {w w' : World} {k : IntKind} {v : Value} {xs : List Int} {B C : Nat} (h : SlI S w k v xs) (hb : Between B C w w') (hS : ∀ b, S b → b < w.heap.size ∧ (b < B ∨ C ≤ b)) : SlI S w' k v xs :=
  h.keep fun b hSb => hb.block b (hS b hSb).1 (hS b hSb).2
theorem Own.between {w w' : World} {B0 B C : Nat} {E : TypeId} {size : Nat} {v : Value} {n : Nat} {xs : List Value} (h : Own w B0 E size v n xs) (hb : Between B C w w') (hS : C ≤ B0) : Own w' B0 E size v n xs :=
  h.keep fun b hv => hb.block b (h.lt b hv).2 (.inr (by have := (h.lt b hv).1; omega))
theorem OwnR.between {w w' : World} {B0 C0 B C : Nat} {EO EI : TypeId} {u : Value} {g : List (List Int)} (h : OwnR w B0 C0 EO EI u g) (hb : Between B C w w') (hS : C ≤ B0 ∨ C0 ≤ B) : OwnR w' B0 C0 EO EI u g := by
  obtain ⟨vs, h1, h2, h3, hap, h4⟩ := h
  refine ⟨vs, h1, h2.keep fun b hv => hb.block b (h2.lt b hv).2 ?_, h3, hap, fun i hi hi2 => ⟨(h4 i hi hi2).1.keep fun b hv => hb.block b ((h4 i hi hi2).1.lt b hv).2 ?_, (h4 i hi hi2).2⟩⟩
  · have h5 := (h2.lt b hv).1; have h6 := h3 b hv; omega
  · have h5 := ((h4 i hi hi2).1.lt b hv).1; have h6 := ((h4 i hi hi2).2 b hv).1; omega
set_option maxHeartbeats 1000000 in
theorem toRows_any {S : Nat → Prop} {v : Value} {g : List (List Int)} {w : World} (hv : SlR S w v g) (hx : SmallR g 1048576) :
    Calls Tryd.prog 12 #[v] w fun e w' => ∃ u, e = .returned u ∧ OwnR w' w.heap.size w'.heap.size 46 2 u g ∧ Below w.heap.size w w' := by
  obtain ⟨a, b, off, cap, f, rfl, hl, ha, hc0⟩ := hv
  have hgl : g.length ≤ 1048576 := by have := hx.1; omega
  have hmk := run_make_row' (P := Tryd.prog) 22 46 (.slice none 0 0) 24 elRows.ht elRows.hi rfl .i64 .i64 g.length (by omega) (by omega)
  go_enter Tryd.func12, Tryd.ntmps12
  go_wp2
  go_loopw [4] (fun i wr => ∃ (k : Nat) (vs : List Value), vs.length = k ∧ k ≤ g.length ∧ i = .int .i64 k ∧ Below w.heap.size w wr ∧ (∀ i (h : i < vs.length) (h2 : i < g.length), Own wr (w.heap.size + 1) 2 1 vs[i] g[i].length (g[i].map (.int .i64))) ∧ ApartL vs ∧
      Own wr w.heap.size 46 1 (.slice (some ⟨w.heap.size, 0, none⟩) g.length g.length) g.length (vs ++ List.replicate (g.length - k) (.slice none 0 0))) (fun i _ => g.length - (intOf i).toNat)
  case atStart => exact ⟨0, [], rfl, Nat.zero_le _, rfl, (Below.refl _ _).alloc (Nat.le_refl _) _, (fun i h => by simp at h), ApartL.nil, Own.made w w.heap.size 46 _ g.length (Nat.le_refl _) (by omega)⟩
  case round =>
    clear hmk
    obtain ⟨k, vs, hvk, hk, rfl, hq, hrows, hap, hown⟩ := hrel
    have HK := Lib.hid hvk; clear hvk
    have hc := hc0.below hq (Nat.le_refl _)
    by_cases hlt : k < g.length
    · obtain ⟨hcell, hrow⟩ := hc k hlt
      have hsm : g[k].length ≤ 1048576 := by have := hx.2 k hlt hlt; omega
      obtain ⟨rfl, hS⟩ := ha (by omega)
      have hwl := (hown.lt _ rfl).2
      have HR := Lib.hid hrows; clear hrows
      go_wp2_with (go_at_call 22; refine (toInt64S_any _ _ _ hrow hsm).mono ?_; rintro e w' ⟨u, rfl, hu, hq'⟩; have hown' := hown.below hq' (Nat.le_refl _); have hfz := World.ownsRow.frozenAt hown' k; obtain ⟨u0, hdst⟩ : ∃ u, w'.cell? ⟨w.heap.size, k, none⟩ = some u := ⟨_, (World.ownsRow.cellAt hown' k (by omega)).trans (List.getElem?_eq_getElem (by simp [HK.out]; omega))⟩; obtain ⟨ua, uc, rfl⟩ := hu.isSlice)
      go_roundw
      case rel =>
        have hset := fun b (hb : w.heap.size + 1 ≤ b) => Below.heap_setCell w' ⟨w.heap.size, k, none⟩ (.slice ua g[k].length uc) b (by simp; omega)
        have hu2 := hu.weak (show w.heap.size + 1 ≤ wr.heap.size by omega)
        refine ⟨k + 1, vs ++ [.slice ua g[k].length uc], by simp [HK.out], by omega, by go_num, ((hq.trans (hq'.mono hq.size))).setCell (by simp) _, fun i h h2 => ?_, hap.snoc (N := wr.heap.size) (fun i hi b hb => ((HR.out i hi (by have := HK.out; omega)).lt b hb).2) (fun b hb => hu.ge b hb), ?_⟩
        · by_cases e : i < vs.length
          · have := HR.out i e h2
            rw [List.getElem_append_left e]
            exact (this.below hq' (Nat.le_refl _)).keep (fun b hb => hset b (this.ge b hb))
          · have e2 : i = k := by simp at h; have := HK.out; omega
            subst e2
            rw [List.getElem_append_right (by omega)]
            have e3 : i - vs.length = 0 := by have := HK.out; omega
            simp only [e3, List.getElem_cons_zero]
            exact hu2.keep (fun b hb => hset b (hu2.ge b hb))
        · rw [← set_next HK.out hlt]; exact hown'.stored k _
      case measure => simp [intOf]; omega
    · go_wp2
      go_ret
      obtain rfl : k = g.length := by omega
      rw [Nat.sub_self, List.replicate_zero, List.append_nil] at hown
      refine ⟨_, rfl, ⟨vs, HK.out, hown, fun b hb => (hown.lt b hb).2, hap, fun i h h2 => ⟨(hrows i h2 h).weak (by omega), fun b hb => ⟨((hrows i h2 h).lt b hb).2, fun e => ?_⟩⟩⟩, hq⟩
      have h5 := ((hrows i h2 h).lt b hb).1
      have h6 : w.heap.size = b := by simpa [Value.ownBlock] using e
      omega
theorem toGraphR_any {S : Nat → Prop} {v : Value} {g : List (List Int)} {w : World} (hv : SlR S w v g) (hx : SmallR g 1048576) :
    Calls Tryd.prog 6 #[.agg #[v]] w fun e w' => ∃ u, e = .returned (.agg #[u]) ∧ OwnR w' w.heap.size w'.heap.size 46 2 u g ∧ Below w.heap.size w w' := by
  have hb : Below w.heap.size w (((w.alloc (.cells #[v] 24)).alloc (.cells #[.slice none 0 0] 27)).alloc (.cells #[.slice none 0 0] 27)) :=
    (((Below.refl _ _).alloc (Nat.le_refl _) _).alloc (by simp) _).alloc (by simp; omega) _
  obtain ⟨va, vc, rfl⟩ := hv.slice
  go_enter Tryd.func6, Tryd.ntmps6
  go_wp2_with fail
  refine (toRows_any (hv.below hb (Nat.le_refl _)) hx).mono ?_
  rintro e w' ⟨u, rfl, hu, hq'⟩
  obtain ⟨vs, h1, h2, h3, hap, h4⟩ := hu
  obtain ⟨ua, uc, rfl⟩ := h2.isSlice
  have c1 : w'.cell? ⟨w.heap.size + 1, 0, none⟩ = some (.slice none 0 0) := (hq'.cell (p := ⟨w.heap.size + 1, 0, none⟩) (by simp)).trans (by simp [go_sem])
  have c2 : w'.cell? ⟨w.heap.size + 2, 0, none⟩ = some (.slice none 0 0) := (hq'.cell (p := ⟨w.heap.size + 2, 0, none⟩) (by simp)).trans (by simp [go_sem])
  have f1 : w'.frozen? ⟨w.heap.size + 1, 0, none⟩ = false := (hq'.frozen (p := ⟨w.heap.size + 1, 0, none⟩) (by simp)).trans (by simp [go_sem])
  have f2 : w'.frozen? ⟨w.heap.size + 2, 0, none⟩ = false := (hq'.frozen (p := ⟨w.heap.size + 2, 0, none⟩) (by simp)).trans (by simp [go_sem])
  go_wp2
  have hs := hq'.size
  simp at hs
  refine bodyPost_ret (v := .agg #[.slice ua g.length uc]) (by simp [results, Tryd.results6, go_sem, c1]) rfl ⟨_, rfl, ?_, ?_⟩
  · have hset : ∀ b, w.heap.size + 3 ≤ b → ((w'.setCell ⟨w.heap.size + 2, 0, none⟩ (.slice ua g.length uc)).setCell ⟨w.heap.size + 1, 0, none⟩ (.slice ua g.length uc)).heap[b]? = w'.heap[b]? :=
      fun b h => (Below.heap_setCell _ _ _ _ (by simp; omega)).trans (Below.heap_setCell _ _ _ _ (by simp; omega))
    refine ⟨vs, h1, (h2.keep (fun b hb => hset b (by have := h2.ge b hb; simp at this; omega))).weak (by simp; omega), (fun b hb => by have := h3 b hb; simpa using this), hap, fun i hi hi2 => ⟨((h4 i hi hi2).1.keep (fun b hb => hset b (by have := (h4 i hi hi2).1.ge b hb; simp at this; omega))).weak (by simp; omega), fun b hb => ⟨by have := ((h4 i hi hi2).2 b hb).1; simpa using this, ((h4 i hi hi2).2 b hb).2⟩⟩⟩
  · exact ((hb.trans (hq'.mono hb.size)).setCell (by simp; omega) _).setCell (by simp) _
theorem Between.cell {B C : Nat} {w w' : World} (h : Between B C w w') {p : Addr} (hp : p.block < w.heap.size) (hB : p.block < B ∨ C ≤ p.block) : w'.cell? p = w.cell? p := World.cell?_of_block (h.block _ hp hB)
theorem OwnR.isSlice {w : World} {B C : Nat} {EO EI : TypeId} {u : Value} {g : List (List Int)} (h : OwnR w B C EO EI u g) : ∃ a c, u = .slice a g.length c := by
  obtain ⟨vs, h1, h2, _⟩ := h
  exact h2.isSlice
theorem OwnR.weaken {w : World} {B C B1 C1 : Nat} {EO EI : TypeId} {u : Value} {g : List (List Int)} (h : OwnR w B C EO EI u g) (hB : B1 ≤ B) (hC : C ≤ C1) : OwnR w B1 C1 EO EI u g := by
  obtain ⟨vs, h1, h2, h3, hap, h4⟩ := h
  exact ⟨vs, h1, h2.weak hB, fun b hb => Nat.lt_of_lt_of_le (h3 b hb) hC, hap, fun i hi hi2 => ⟨(h4 i hi hi2).1.weak hB, fun b hb => ⟨Nat.lt_of_lt_of_le ((h4 i hi hi2).2 b hb).1 hC, ((h4 i hi hi2).2 b hb).2⟩⟩⟩
theorem Between.drew (B C : Nat) (w : World) : Between B C w w.drew := ⟨rfl, rfl, rfl, Nat.le_refl _, fun _ _ _ => rfl⟩
theorem eqI_same {S S' : Nat → Prop} {v u : Value} {xs : List Int} {w : World} (hv : SlI S w .i64 v xs) (hu : SlI S' w .i64 u xs) :
    Calls Tryd.prog 27 #[v, u] w fun e w' => e = .returned (.bool true) ∧ Below w.heap.size w w' := by
  refine (eqInt64S_any _ _ _ _ _ hv hu).mono ?_
  rintro e w' ⟨rfl, hd⟩
  exact ⟨by rw [decide_eq_true rfl], hd.below _⟩
theorem eqG_same {S S' : Nat → Prop} {v u : Value} {xs : List (List Int)} {w : World} (hv : SlR S w v xs) (hu : SlR S' w u xs) :
    Calls Tryd.prog 8 #[.agg #[v], .agg #[u]] w fun e w' => e = .returned (.bool true) ∧ Below w.heap.size w w' := by
  refine (eqGraph_any _ _ _ _ _ hv hu).mono ?_
  rintro e w' ⟨rfl, hd⟩
  exact ⟨by rw [decide_eq_true rfl], hd⟩
def sumL (g : List (List Int)) : Nat := (g.map List.length).sum
def sumTL (g : List (List Int)) (j : Nat) : Nat := sumL (g.take j)
theorem sumTL_succ {g : List (List Int)} {j : Nat} (hj : j < g.length) : sumTL g (j + 1) = sumTL g j + g[j].length := by
  unfold sumTL sumL
  rw [List.take_succ_eq_append_getElem hj, List.map_append, List.sum_append]; simp
theorem sumTL_all (g : List (List Int)) : sumTL g g.length = sumL g := by unfold sumTL; rw [List.take_length]
theorem sumTL_le {g : List (List Int)} (hs : SmallR g 1048576) : ∀ j, j ≤ g.length → sumTL g j ≤ 1048576 * j
  | 0, _ => by simp [sumTL, sumL]
  | j + 1, hj => by
    have := sumTL_le hs j (by omega)
    have h2 := hs.2 j (by omega) (by omega)
    rw [sumTL_succ (by omega)]; omega
theorem sumTL_small {g : List (List Int)} (hs : SmallR g 1048576) {j : Nat} (hj : j ≤ g.length) : sumTL g j ≤ 1099511627776 := by
  have h1 := sumTL_le hs j hj
  have h2 := hs.1
  have h3 : 1048576 * j ≤ 1048576 * 1048576 := Nat.mul_le_mul_left _ (by omega)
  omega
/-- The rows of marks. -/
def marksR (k : Int) (g : List (List Int)) : List (List Int) := (List.range g.length).map fun i => marksL (k + (sumTL g i : Int)) (g.getD i []).length
theorem marksR_len (k : Int) (g : List (List Int)) : (marksR k g).length = g.length := by simp [marksR]
theorem marksR_get {k : Int} {g : List (List Int)} {i : Nat} (h : i < (marksR k g).length) (h2 : i < g.length) : (marksR k g)[i] = marksL (k + (sumTL g i : Int)) g[i].length := by simp [marksR, h2]
theorem marksR_small {k : Int} {g : List (List Int)} (hs : SmallR g 1048576) : SmallR (marksR k g) 1048576 := by
  refine ⟨by rw [marksR_len]; exact hs.1, fun i hi _ => ?_⟩
  have h2 : i < g.length := by rw [marksR_len] at hi; exact hi
  rw [marksR_get hi h2, marksL_len]
  exact hs.2 i h2 h2
theorem SlR.betweenR {S : Nat → Prop} {w w' : World} {v : Value} {g : List (List Int)} {B C : Nat} (h : SlR S w v g) (hb : Between B C w w') (hS : ∀ b, S b → b < w.heap.size ∧ (b < B ∨ C ≤ b)) : SlR S w' v g :=
  h.keep fun b hSb => hb.block b (hS b hSb).1 (hS b hSb).2
theorem eqR_same {S S' : Nat → Prop} {v u : Value} {xs : List (List Int)} {w : World} (hv : SlR S w v xs) (hu : SlR S' w u xs) :
    Calls Tryd.prog 17 #[v, u] w fun e w' => e = .returned (.bool true) ∧ Below w.heap.size w w' := by
  refine (eqInt64SS_any _ _ _ _ _ hv hu).mono ?_
  rintro e w' ⟨rfl, hd⟩
  exact ⟨by rw [decide_eq_true rfl], hd.below _⟩
