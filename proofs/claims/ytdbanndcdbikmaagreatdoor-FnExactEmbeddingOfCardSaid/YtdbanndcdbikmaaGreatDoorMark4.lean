/- Marks written into a slice of slices and read again, exactly; equal results. -/
import Derived.Test.YtdbanndcdbikmaaGreatDoorLaws
namespace Go.Proofs.YtdbanndcdbikmaaGreatDoor
open Go.RowKit
/-- The marks k, k + 1, .. -/
def marksL (k : Int) (n : Nat) : List Int := (List.range n).map fun i : Nat => k + (i : Int)
theorem marksL_len (k : Int) (n : Nat) : (marksL k n).length = n := by simp [marksL]
theorem marksL_get {k : Int} {n i : Nat} (h : i < (marksL k n).length) : (marksL k n)[i] = k + (i : Int) := by simp [marksL]
/-- The first j are marked, the others are as they were. -/
def marked (k : Int) (xs : List Int) (j : Nat) : List Int := marksL k j ++ xs.drop j
theorem marked_zero (k : Int) (xs : List Int) : marked k xs 0 = xs := by simp [marked, marksL]
theorem marked_all (k : Int) (xs : List Int) : marked k xs xs.length = marksL k xs.length := by simp [marked]
theorem marksL_succ (k : Int) (n : Nat) : marksL k (n + 1) = marksL k n ++ [k + (n : Int)] := by simp [marksL, List.range_succ]
theorem marked_set {k : Int} {xs : List Int} {j : Nat} (hj : j < xs.length) : (marked k xs j).set j (k + (j : Int)) = marked k xs (j + 1) := by
  unfold marked
  rw [List.drop_eq_getElem_cons hj, List.set_append, if_neg (by rw [marksL_len]; omega), marksL_len, Nat.sub_self, List.set_cons_zero, marksL_succ]
  simp
set_option maxHeartbeats 1000000 in
theorem markInt64S_any {B n : Nat} {v : Value} {xs : List Int} {k : Int} {w : World} (hv : Own w B 2 1 v n (xs.map (.int .i64))) (hn : n ≤ 1048576) (hk0 : 0 ≤ k) (hk1 : k ≤ 1125899906842624) :
    Calls Tryz.prog 92 #[v, .int .i64 k] w fun e w' => e = .returned (.int .i64 (k + n)) ∧ Own w' B 2 1 v n ((marksL k n).map (.int .i64)) ∧ KeptBut w w' v.ownBlock := by
  have hln : xs.length = n := by have := hv.1; simpa using this
  rcases hv.2 with ⟨rfl, rfl⟩ | ⟨g, cap, cur, rfl, hbg, hg, hnc, -⟩
  · have hx : xs = [] := List.eq_nil_of_length_eq_zero hln
    subst hx
    go_enter Tryz.func92, Tryz.ntmps92
    go_wp2
    go_loopw [5, 1] (fun i m wr => i = .int .i64 0 ∧ m = .int .i64 k ∧ w = wr) (fun _ _ _ => 0)
    case atStart => exact ⟨rfl, rfl, rfl⟩
    case round =>
      obtain ⟨rfl, rfl, rfl⟩ := hrel
      go_wp2
      go_ret
      exact ⟨ret_int (by simp), by simpa [marksL] using hv, rfl, rfl, rfl, Nat.le_refl _, fun _ _ _ => rfl⟩
  · have hgl := (Array.getElem?_eq_some_iff.1 hg).1
    go_enter Tryz.func92, Tryz.ntmps92
    go_wp2
    go_loopw [5, 1] (fun i m wr => ∃ j : Nat, j ≤ n ∧ i = .int .i64 j ∧ m = .int .i64 (k + (j : Int)) ∧ Own wr B 2 1 (.slice (some ⟨g, 0, none⟩) n cap) n ((marked k xs j).map (.int .i64)) ∧ KeptBut w wr (some g)) (fun i _ _ => n - (intOf i).toNat)
    case atStart => exact ⟨0, Nat.zero_le _, rfl, by simp, by rw [marked_zero]; exact hv, rfl, rfl, rfl, Nat.le_refl _, fun _ _ _ => rfl⟩
    case round =>
      obtain ⟨j, hj, rfl, rfl, hown, hkp⟩ := hrel
      by_cases hlt : j < n
      · have hfz := World.ownsRow.frozenAt hown j
        obtain ⟨u0, hdst⟩ : ∃ u, wr.cell? ⟨g, j, none⟩ = some u := ⟨_, (World.ownsRow.cellAt hown j (by omega)).trans (List.getElem?_eq_getElem (by rw [hown.1]; omega))⟩
        have hset := Lib.hid (marked_set (k := k) (show j < xs.length by omega))
        have HO := Lib.hid hown; clear hown
        go_wp2
        go_roundw
        case rel =>
          refine ⟨j + 1, by omega, by go_num, by first | go_num | (congr 1; omega), ?_, hkp.1, hkp.2.1, hkp.2.2.1, by simpa using hkp.2.2.2.1, fun b hb hne => (Below.heap_setCell _ _ _ _ (fun e => hne (by simp at e; rw [e]))).trans (hkp.2.2.2.2 b hb hne)⟩
          have h1 := HO.out.stored j (.int .i64 (k + (j : Int)))
          rw [← hset.out, List.map_set]; exact h1
        case measure => simp [intOf]; omega
      · obtain rfl : j = n := by omega
        go_wp2
        go_ret
        refine ⟨rfl, ?_, hkp⟩
        rw [← hln, marked_all, hln] at hown
        exact hown
set_option maxHeartbeats 1000000 in
theorem heldInt64S_any {S : Nat → Prop} {n : Nat} {v : Value} {k : Int} {w : World} (hv : SlI S w .i64 v (marksL k n)) (hn : n ≤ 1048576) (hk0 : 0 ≤ k) (hk1 : k ≤ 1125899906842624) :
    Calls Tryz.prog 93 #[v, .int .i64 k] w fun e w' => e = .returned (.int .i64 (k + n)) ∧ Drawn w w' := by
  obtain ⟨a, b, off, cap, rfl, hl, ha, hc0⟩ := hv
  simp only [marksL_len] at hl ha ⊢
  go_enter Tryz.func93, Tryz.ntmps93
  go_wp2
  go_loopw [5, 1] (fun i m wr => ∃ j : Nat, j ≤ n ∧ i = .int .i64 j ∧ m = .int .i64 (k + (j : Int)) ∧ Drawn w wr) (fun i _ _ => n - (intOf i).toNat)
  case atStart => exact ⟨0, Nat.zero_le _, rfl, by simp, Drawn.refl _⟩
  case round =>
    obtain ⟨j, hj, rfl, rfl, hd⟩ := hrel
    by_cases hlt : j < n
    · have hcell := (hd.cell _).trans (hc0 j (by rw [marksL_len]; exact hlt))
      rw [marksL_get] at hcell
      obtain ⟨rfl, -⟩ := ha (by omega)
      have hnb : ((k + (j : Int)) != (k + (j : Int))) = false := by simp
      go_wp2
      go_roundw
      case rel => exact ⟨j + 1, by omega, by go_num, by first | go_num | (congr 1; omega), hd⟩
      case measure => simp [intOf]; omega
    · obtain rfl : j = n := by omega
      go_wp2
      go_ret
      exact ⟨rfl, hd⟩
/-- Slices in blocks of their own each. -/
def ApartL (vs : List Value) : Prop := ∀ i j (hi : i < vs.length) (hj : j < vs.length) (b : Nat), vs[i].ownBlock = some b → vs[j].ownBlock = some b → i = j
theorem ApartL.nil : ApartL [] := fun i j hi => by simp at hi
theorem ApartL.snoc {vs : List Value} {u : Value} {N : Nat} (h : ApartL vs) (h1 : ∀ i (hi : i < vs.length) b, vs[i].ownBlock = some b → b < N) (h2 : ∀ b, u.ownBlock = some b → N ≤ b) : ApartL (vs ++ [u]) := by
  intro i j hi hj b hb1 hb2
  rw [List.length_append] at hi hj
  simp only [List.length_singleton] at hi hj
  by_cases ei : i < vs.length <;> by_cases ej : j < vs.length
  · rw [List.getElem_append_left ei] at hb1; rw [List.getElem_append_left ej] at hb2; exact h i j ei ej b hb1 hb2
  · rw [List.getElem_append_left ei] at hb1; rw [List.getElem_append_right (by omega)] at hb2
    have e : j - vs.length = 0 := by omega
    simp only [e, List.getElem_cons_zero] at hb2
    have := h1 i ei b hb1; have := h2 b hb2; omega
  · rw [List.getElem_append_left ej] at hb2; rw [List.getElem_append_right (by omega)] at hb1
    have e : i - vs.length = 0 := by omega
    simp only [e, List.getElem_cons_zero] at hb1
    have := h1 j ej b hb2; have := h2 b hb1; omega
  · omega
/-- u is an own slice of own rows; all blocks lie from B on, below C; the rows lie apart from the outer array. -/
def OwnR (w : World) (B C : Nat) (EO EI : TypeId) (u : Value) (g : List (List Int)) : Prop :=
  ∃ vs : List Value, vs.length = g.length ∧ Own w B EO 1 u g.length vs ∧ (∀ b, u.ownBlock = some b → b < C) ∧ ApartL vs ∧
    ∀ i (h : i < g.length) (h2 : i < vs.length), Own w B EI 1 vs[i] g[i].length (g[i].map (.int .i64)) ∧ (∀ b, vs[i].ownBlock = some b → b < C ∧ u.ownBlock ≠ some b)
theorem OwnR.below {w w' : World} {B C B1 : Nat} {EO EI : TypeId} {u : Value} {g : List (List Int)} (h : OwnR w B C EO EI u g) (hb : Below B1 w w') (hB : w.heap.size ≤ B1) : OwnR w' B C EO EI u g := by
  obtain ⟨vs, h1, h2, h3, hap, h4⟩ := h
  exact ⟨vs, h1, h2.below hb hB, h3, hap, fun i hi hi2 => ⟨(h4 i hi hi2).1.below hb hB, (h4 i hi hi2).2⟩⟩
/-- It reads as rows. -/
theorem OwnR.rows {w : World} {B C : Nat} {EO EI : TypeId} {u : Value} {g : List (List Int)} (h : OwnR w B C EO EI u g) (hs : SmallR g 1048576) : SlR (fun b => B ≤ b ∧ b < C) w u g := by
  obtain ⟨vs, h1, h2, h3, hap, h4⟩ := h
  have hl : g.length ≤ 1048576 := by have := hs.1; omega
  have hr : RowsTo (fun b => B ≤ b ∧ b < C) w vs g := ⟨by omega, fun i hi hi2 => by
    have := (h4 i hi2 hi).1.ints (by have := hs.2 i hi2 hi2; omega)
    exact this.weak (fun b hb => ⟨(h4 i hi2 hi).1.ge b hb, ((h4 i hi2 hi).2 b hb).1⟩)⟩
  exact hr.rows h1 (fun b hb => ⟨h2.ge b hb, h3 b hb⟩) h2 (by omega)
theorem own_none_some {w : World} {B : Nat} {E : TypeId} {size : Nat} {v : Value} {n : Nat} {xs : List Value} (h : Own w B E size v n xs) : (v = .slice none 0 0 ∧ n = 0) ∨ ∃ g c, v = .slice (some ⟨g, 0, none⟩) n c := by
  rcases h.2 with ⟨rfl, rfl⟩ | ⟨g, cap, cur, rfl, _⟩
  · exact .inl ⟨rfl, rfl⟩
  · exact .inr ⟨g, cap, rfl⟩
/-- Only blocks from B on, below C, may have changed. -/
structure Between (B C : Nat) (w w' : World) : Prop where
  os : w'.os = w.os
  tape : w'.tape = w.tape
  output : w'.output = w.output
  size : w.heap.size ≤ w'.heap.size
  block : ∀ b, b < w.heap.size → (b < B ∨ C ≤ b) → w'.heap[b]? = w.heap[b]?
theorem Between.refl (B C : Nat) (w : World) : Between B C w w := ⟨rfl, rfl, rfl, Nat.le_refl _, fun _ _ _ => rfl⟩
theorem Between.trans {B C : Nat} {a b c : World} (h : Between B C a b) (k : Between B C b c) : Between B C a c :=
  ⟨k.os.trans h.os, k.tape.trans h.tape, k.output.trans h.output, Nat.le_trans h.size k.size, fun x hx hB => (k.block x (Nat.lt_of_lt_of_le hx h.size) hB).trans (h.block x hx hB)⟩
theorem Between.below {B C : Nat} {w0 w w' : World} {B0 : Nat} (h : Between B C w w') (hb : Below B0 w0 w) (hB : B0 ≤ B) (hs : B0 ≤ w.heap.size) : Below B0 w0 w' :=
  hb.trans ⟨h.os, h.tape, h.output, h.size, fun b hb => h.block b (by omega) (.inl (by omega))⟩
theorem KeptBut.between {w w' : World} {row : Option Nat} {B C : Nat} (h : KeptBut w w' row) (hr : ∀ b, row = some b → B ≤ b ∧ b < C) : Between B C w w' :=
  ⟨h.1, h.2.1, h.2.2.1, h.2.2.2.1, fun b hb hB => h.2.2.2.2 b hb (fun e => by have := hr b e.symm; omega)⟩
theorem SlI.between {S : Nat → Prop} {w w' : World} {k : IntKind} {v : Value} {xs : List Int} {B C : Nat} (h : SlI S w k v xs) (hb : Between B C w w') (hS : ∀ b, S b → b < w.heap.size ∧ (b < B ∨ C ≤ b)) : SlI S w' k v xs :=
  h.keep fun b hSb => hb.block b (hS b hSb).1 (hS b hSb).2
theorem Own.between {w w' : World} {B0 B C : Nat} {E : TypeId} {size : Nat} {v : Value} {n : Nat} {xs : List Value} (h : Own w B0 E size v n xs) (hb : Between B C w w') (hS : C ≤ B0) : Own w' B0 E size v n xs :=
  h.keep fun b hv => hb.block b (h.lt b hv).2 (.inr (by have := (h.lt b hv).1; omega))
theorem OwnR.between {w w' : World} {B0 C0 B C : Nat} {EO EI : TypeId} {u : Value} {g : List (List Int)} (h : OwnR w B0 C0 EO EI u g) (hb : Between B C w w') (hS : C ≤ B0 ∨ C0 ≤ B) : OwnR w' B0 C0 EO EI u g := by
  obtain ⟨vs, h1, h2, h3, hap, h4⟩ := h
  refine ⟨vs, h1, h2.keep fun b hv => hb.block b (h2.lt b hv).2 ?_, h3, hap, fun i hi hi2 => ⟨(h4 i hi hi2).1.keep fun b hv => hb.block b ((h4 i hi hi2).1.lt b hv).2 ?_, (h4 i hi hi2).2⟩⟩
  · have h5 := (h2.lt b hv).1; have h6 := h3 b hv; omega
  · have h5 := ((h4 i hi hi2).1.lt b hv).1; have h6 := ((h4 i hi hi2).2 b hv).1; omega
set_option maxHeartbeats 1000000 in
theorem toRows_any {S : Nat → Prop} {v : Value} {g : List (List Int)} {w : World} (hv : SlR S w v g) (hx : SmallR g 1048576) :
    Calls Tryz.prog 46 #[v] w fun e w' => ∃ u, e = .returned u ∧ OwnR w' w.heap.size w'.heap.size 36 2 u g ∧ Below w.heap.size w w' := by
  obtain ⟨a, b, off, cap, f, rfl, hl, ha, hc0⟩ := hv
  have hgl : g.length ≤ 1048576 := by have := hx.1; omega
  have hmk := run_make_row' (P := Tryz.prog) 24 36 (.slice none 0 0) 24 elRows.ht elRows.hi rfl .i64 .i64 g.length (by omega) (by omega)
  go_enter Tryz.func46, Tryz.ntmps46
  go_wp2
  go_loopw [4] (fun i wr => ∃ (k : Nat) (vs : List Value), vs.length = k ∧ k ≤ g.length ∧ i = .int .i64 k ∧ Below w.heap.size w wr ∧ (∀ i (h : i < vs.length) (h2 : i < g.length), Own wr (w.heap.size + 1) 2 1 vs[i] g[i].length (g[i].map (.int .i64))) ∧ ApartL vs ∧
      Own wr w.heap.size 36 1 (.slice (some ⟨w.heap.size, 0, none⟩) g.length g.length) g.length (vs ++ List.replicate (g.length - k) (.slice none 0 0))) (fun i _ => g.length - (intOf i).toNat)
  case atStart => exact ⟨0, [], rfl, Nat.zero_le _, rfl, (Below.refl _ _).alloc (Nat.le_refl _) _, (fun i h => by simp at h), ApartL.nil, Own.made w w.heap.size 36 _ g.length (Nat.le_refl _) (by omega)⟩
  case round =>
    clear hmk
    obtain ⟨k, vs, hvk, hk, rfl, hq, hrows, hap, hown⟩ := hrel
    have HK := Lib.hid hvk; clear hvk
    have hc := hc0.below hq (Nat.le_refl _)
    by_cases hlt : k < g.length
    · obtain ⟨hcell, hrow⟩ := hc k hlt
      have hsm : g[k].length ≤ 1048576 := by have := hx.2 k hlt hlt; omega
      obtain ⟨rfl, hS⟩ := ha (by omega)
      have hwl := (hown.lt _ rfl).2
      have HR := Lib.hid hrows; clear hrows
      go_wp2_with (go_at_call 87; refine (toInt64S_any _ _ _ hrow hsm).mono ?_; rintro e w' ⟨u, rfl, hu, hq'⟩; have hown' := hown.below hq' (Nat.le_refl _); have hfz := World.ownsRow.frozenAt hown' k; obtain ⟨u0, hdst⟩ : ∃ u, w'.cell? ⟨w.heap.size, k, none⟩ = some u := ⟨_, (World.ownsRow.cellAt hown' k (by omega)).trans (List.getElem?_eq_getElem (by simp [HK.out]; omega))⟩; obtain ⟨ua, uc, rfl⟩ := hu.isSlice)
      go_roundw
      case rel =>
        have hset := fun b (hb : w.heap.size + 1 ≤ b) => Below.heap_setCell w' ⟨w.heap.size, k, none⟩ (.slice ua g[k].length uc) b (by simp; omega)
        have hu2 := hu.weak (show w.heap.size + 1 ≤ wr.heap.size by omega)
        refine ⟨k + 1, vs ++ [.slice ua g[k].length uc], by simp [HK.out], by omega, by go_num, ((hq.trans (hq'.mono hq.size))).setCell (by simp) _, fun i h h2 => ?_, hap.snoc (N := wr.heap.size) (fun i hi b hb => ((HR.out i hi (by have := HK.out; omega)).lt b hb).2) (fun b hb => hu.ge b hb), ?_⟩
        · by_cases e : i < vs.length
          · have := HR.out i e h2
            rw [List.getElem_append_left e]
            exact (this.below hq' (Nat.le_refl _)).keep (fun b hb => hset b (this.ge b hb))
          · have e2 : i = k := by simp at h; have := HK.out; omega
            subst e2
            rw [List.getElem_append_right (by omega)]
            have e3 : i - vs.length = 0 := by have := HK.out; omega
            simp only [e3, List.getElem_cons_zero]
            exact hu2.keep (fun b hb => hset b (hu2.ge b hb))
        · rw [← set_next HK.out hlt]; exact hown'.stored k _
      case measure => simp [intOf]; omega
    · go_wp2
      go_ret
      obtain rfl : k = g.length := by omega
      rw [Nat.sub_self, List.replicate_zero, List.append_nil] at hown
      refine ⟨_, rfl, ⟨vs, HK.out, hown, fun b hb => (hown.lt b hb).2, hap, fun i h h2 => ⟨(hrows i h2 h).weak (by omega), fun b hb => ⟨((hrows i h2 h).lt b hb).2, fun e => ?_⟩⟩⟩, hq⟩
      have h5 := ((hrows i h2 h).lt b hb).1
      have h6 : w.heap.size = b := by simpa [Value.ownBlock] using e
      omega
theorem toGraphR_any {S : Nat → Prop} {v : Value} {g : List (List Int)} {w : World} (hv : SlR S w v g) (hx : SmallR g 1048576) :
    Calls Tryz.prog 18 #[.agg #[v]] w fun e w' => ∃ u, e = .returned (.agg #[u]) ∧ OwnR w' w.heap.size w'.heap.size 36 2 u g ∧ Below w.heap.size w w' := by
  have hb : Below w.heap.size w (((w.alloc (.cells #[v] 38)).alloc (.cells #[.slice none 0 0] 26)).alloc (.cells #[.slice none 0 0] 26)) :=
    (((Below.refl _ _).alloc (Nat.le_refl _) _).alloc (by simp) _).alloc (by simp; omega) _
  obtain ⟨va, vc, rfl⟩ := hv.slice
  go_enter Tryz.func18, Tryz.ntmps18
  go_wp2_with fail
  refine (toRows_any (hv.below hb (Nat.le_refl _)) hx).mono ?_
  rintro e w' ⟨u, rfl, hu, hq'⟩
  obtain ⟨vs, h1, h2, h3, hap, h4⟩ := hu
  obtain ⟨ua, uc, rfl⟩ := h2.isSlice
  have c1 : w'.cell? ⟨w.heap.size + 1, 0, none⟩ = some (.slice none 0 0) := (hq'.cell (p := ⟨w.heap.size + 1, 0, none⟩) (by simp)).trans (by simp [go_sem])
  have c2 : w'.cell? ⟨w.heap.size + 2, 0, none⟩ = some (.slice none 0 0) := (hq'.cell (p := ⟨w.heap.size + 2, 0, none⟩) (by simp)).trans (by simp [go_sem])
  have f1 : w'.frozen? ⟨w.heap.size + 1, 0, none⟩ = false := (hq'.frozen (p := ⟨w.heap.size + 1, 0, none⟩) (by simp)).trans (by simp [go_sem])
  have f2 : w'.frozen? ⟨w.heap.size + 2, 0, none⟩ = false := (hq'.frozen (p := ⟨w.heap.size + 2, 0, none⟩) (by simp)).trans (by simp [go_sem])
  go_wp2
  have hs := hq'.size
  simp at hs
  refine bodyPost_ret (v := .agg #[.slice ua g.length uc]) (by simp [results, Tryz.results18, go_sem, c1]) rfl ⟨_, rfl, ?_, ?_⟩
  · have hset : ∀ b, w.heap.size + 3 ≤ b → ((w'.setCell ⟨w.heap.size + 2, 0, none⟩ (.slice ua g.length uc)).setCell ⟨w.heap.size + 1, 0, none⟩ (.slice ua g.length uc)).heap[b]? = w'.heap[b]? :=
      fun b h => (Below.heap_setCell _ _ _ _ (by simp; omega)).trans (Below.heap_setCell _ _ _ _ (by simp; omega))
    refine ⟨vs, h1, (h2.keep (fun b hb => hset b (by have := h2.ge b hb; simp at this; omega))).weak (by simp; omega), (fun b hb => by have := h3 b hb; simpa using this), hap, fun i hi hi2 => ⟨((h4 i hi hi2).1.keep (fun b hb => hset b (by have := (h4 i hi hi2).1.ge b hb; simp at this; omega))).weak (by simp; omega), fun b hb => ⟨by have := ((h4 i hi hi2).2 b hb).1; simpa using this, ((h4 i hi hi2).2 b hb).2⟩⟩⟩
  · exact ((hb.trans (hq'.mono hb.size)).setCell (by simp; omega) _).setCell (by simp) _
set_option maxHeartbeats 1000000 in
theorem markRows_any {B C : Nat} {EO : TypeId} {u : Value} {g : List (List Int)} {k : Int} {w : World} (hu : OwnR w B C EO 2 u g) (hs : SmallR g 1048576) (hk0 : 0 ≤ k) (hk1 : k ≤ 100000000000000) :
    Calls Tryz.prog 53 #[u, .int .i64 k] w fun e w' => ∃ k' : Int, e = .returned (.int .i64 k') ∧ 0 ≤ k' ∧ k' ≤ k + 1099511627776 ∧ Between B C w w' := by
  obtain ⟨vs, h1, h2, h3, hap, h4⟩ := hu
  have hgl : g.length ≤ 1048576 := by have := hs.1; omega
  rcases own_none_some h2 with ⟨rfl, hn⟩ | ⟨gb, gc, rfl⟩
  · have hg0 : g = [] := List.eq_nil_of_length_eq_zero hn
    subst hg0
    go_enter Tryz.func53, Tryz.ntmps53
    go_wp2
    go_loopw [5, 1] (fun i m wr => i = .int .i64 0 ∧ m = .int .i64 k ∧ w = wr) (fun _ _ _ => 0)
    case atStart => exact ⟨rfl, rfl, rfl⟩
    case round =>
      obtain ⟨rfl, rfl, rfl⟩ := hrel
      go_wp2
      go_ret
      exact ⟨k, rfl, hk0, by omega, Between.refl _ _ _⟩
  · go_enter Tryz.func53, Tryz.ntmps53
    go_wp2
    go_loopw [5, 1] (fun i m wr => ∃ (j : Nat) (k' : Int), j ≤ g.length ∧ i = .int .i64 j ∧ m = .int .i64 k' ∧ 0 ≤ k' ∧ k' ≤ k + (j : Int) * 1048576 ∧ Own wr B EO 1 (.slice (some ⟨gb, 0, none⟩) g.length gc) g.length vs ∧ (∀ i (h : i < g.length) (h2 : i < vs.length), j ≤ i → Own wr B 2 1 vs[i] g[i].length (g[i].map (.int .i64))) ∧ Between B C w wr) (fun i _ _ => g.length - (intOf i).toNat)
    case atStart => exact ⟨0, k, Nat.zero_le _, rfl, rfl, hk0, by omega, h2, (fun i h h5 _ => (h4 i h h5).1), Between.refl _ _ _⟩
    case round =>
      obtain ⟨j, k', hj, rfl, rfl, hk2, hk3, hown, hrows, hbt⟩ := hrel
      have HR := Lib.hid hrows; clear hrows
      by_cases hlt : j < g.length
      · have hjv : j < vs.length := by omega
        have hcell : wr.cell? ⟨gb, j, none⟩ = some vs[j] := (World.ownsRow.cellAt hown j (by omega)).trans (List.getElem?_eq_getElem hjv)
        have hx := HR.out j hlt hjv (Nat.le_refl _)
        have hsm : g[j].length ≤ 1048576 := by have := hs.2 j hlt hlt; omega
        obtain ⟨ra, rc, hre⟩ := hx.isSlice
        have hbl := (h4 j hlt hjv).2
        have hge := (h4 j hlt hjv).1.ge
        rw [hre] at hcell hx hbl hge
        have HRE := Lib.hid hre; clear hre
        go_wp2_with fail
        refine (markInt64S_any hx hsm hk2 (by omega)).mono ?_
        rintro e w' ⟨rfl, hx', hkp⟩
        go_wp2
        go_roundw
        case rel =>
          refine ⟨j + 1, _, by omega, by go_num, rfl, by omega, by omega, hown.kept hkp (fun b hb he => ?_), fun i hi hi2 hji => ?_, hbt.trans (hkp.between (fun b hb => ⟨hge b hb, (hbl b hb).1⟩))⟩
          · exact (hbl b he).2 hb
          · refine (HR.out i hi hi2 (by omega)).kept hkp (fun b hb he => ?_)
            have := hap i j hi2 hjv b hb (by rw [HRE.out]; exact he)
            omega
        case measure => simp [intOf]; omega
      · obtain rfl : j = g.length := by omega
        go_wp2
        go_ret
        exact ⟨k', rfl, hk2, by omega, hbt⟩
theorem Between.cell {B C : Nat} {w w' : World} (h : Between B C w w') {p : Addr} (hp : p.block < w.heap.size) (hB : p.block < B ∨ C ≤ p.block) : w'.cell? p = w.cell? p := World.cell?_of_block (h.block _ hp hB)
theorem OwnR.isSlice {w : World} {B C : Nat} {EO EI : TypeId} {u : Value} {g : List (List Int)} (h : OwnR w B C EO EI u g) : ∃ a c, u = .slice a g.length c := by
  obtain ⟨vs, h1, h2, _⟩ := h
  exact h2.isSlice
theorem OwnR.weaken {w : World} {B C B1 C1 : Nat} {EO EI : TypeId} {u : Value} {g : List (List Int)} (h : OwnR w B C EO EI u g) (hB : B1 ≤ B) (hC : C ≤ C1) : OwnR w B1 C1 EO EI u g := by
  obtain ⟨vs, h1, h2, h3, hap, h4⟩ := h
  exact ⟨vs, h1, h2.weak hB, fun b hb => Nat.lt_of_lt_of_le (h3 b hb) hC, hap, fun i hi hi2 => ⟨(h4 i hi hi2).1.weak hB, fun b hb => ⟨Nat.lt_of_lt_of_le ((h4 i hi hi2).2 b hb).1 hC, ((h4 i hi hi2).2 b hb).2⟩⟩⟩
theorem Between.drew (B C : Nat) (w : World) : Between B C w w.drew := ⟨rfl, rfl, rfl, Nat.le_refl _, fun _ _ _ => rfl⟩
theorem eqI_same {S S' : Nat → Prop} {v u : Value} {xs : List Int} {w : World} (hv : SlI S w .i64 v xs) (hu : SlI S' w .i64 u xs) :
    Calls Tryz.prog 91 #[v, u] w fun e w' => e = .returned (.bool true) ∧ Below w.heap.size w w' := by
  refine (eqInt64S_any _ _ _ _ _ hv hu).mono ?_
  rintro e w' ⟨rfl, hd⟩
  exact ⟨by rw [decide_eq_true rfl], hd.below _⟩
theorem eqG_same {S S' : Nat → Prop} {v u : Value} {xs : List (List Int)} {w : World} (hv : SlR S w v xs) (hu : SlR S' w u xs) :
    Calls Tryz.prog 21 #[.agg #[v], .agg #[u]] w fun e w' => e = .returned (.bool true) ∧ Below w.heap.size w w' := by
  refine (eqGraph_any _ _ _ _ _ hv hu).mono ?_
  rintro e w' ⟨rfl, hd⟩
  exact ⟨by rw [decide_eq_true rfl], hd⟩
theorem markI_any {B n : Nat} {v : Value} {xs : List Int} {w : World} (hv : Own w B 2 1 v n (xs.map (.int .i64))) (hn : n ≤ 1048576) :
    Calls Tryz.prog 92 #[v, .int .i64 1] w fun e w' => e = .returned (.int .i64 (1 + n)) ∧ Own w' B 2 1 v n ((marksL 1 n).map (.int .i64)) ∧ Between B w.heap.size w w' := by
  refine (markInt64S_any hv hn (by omega) (by omega)).mono ?_
  rintro e w' ⟨rfl, h1, h2⟩
  exact ⟨rfl, h1, h2.between fun b hb => hv.lt b hb⟩
theorem heldI_any {S : Nat → Prop} {n : Nat} {v : Value} {w : World} (hv : SlI S w .i64 v (marksL 1 n)) (hn : n ≤ 1048576) :
    Calls Tryz.prog 93 #[v, .int .i64 1] w fun e w' => e = .returned (.int .i64 (1 + n)) ∧ Below w.heap.size w w' := by
  refine (heldInt64S_any hv hn (by omega) (by omega)).mono ?_
  rintro e w' ⟨rfl, h1⟩
  exact ⟨rfl, h1.below _⟩
theorem markG_any {B C : Nat} {EO : TypeId} {u : Value} {g : List (List Int)} {k : Int} {w : World} (hu : OwnR w B C EO 2 u g) (hs : SmallR g 1048576) (hC : C ≤ w.heap.size) (hk0 : 0 ≤ k) (hk1 : k ≤ 100000000000000) :
    Calls Tryz.prog 22 #[.agg #[u], .int .i64 k] w fun e w' => ∃ k' : Int, e = .returned (.int .i64 k') ∧ 0 ≤ k' ∧ k' ≤ k + 1099511627776 ∧ Between B C w w' := by
  have hbl : Below w.heap.size w (w.alloc (.cells #[u] 26)) := (Below.refl _ _).alloc (Nat.le_refl _) _
  have hu1 := hu.below hbl (Nat.le_refl _)
  obtain ⟨ua, uc, rfl⟩ := hu.isSlice
  go_enter Tryz.func22, Tryz.ntmps22
  go_wp2_with fail
  refine (markRows_any hu1 hs hk0 hk1).mono ?_
  rintro e w' ⟨k', rfl, h1, h2, h3⟩
  have hs3 := h3.size
  have hC1 := hC
  simp at hs3
  go_wp2
  go_ret
  exact ⟨k', rfl, h1, h2, h3.os, h3.tape, h3.output, by omega, fun b hb hB => (h3.block b (by simp; omega) hB).trans (hbl.block b hb)⟩
def sumL (g : List (List Int)) : Nat := (g.map List.length).sum
def sumTL (g : List (List Int)) (j : Nat) : Nat := sumL (g.take j)
theorem sumTL_succ {g : List (List Int)} {j : Nat} (hj : j < g.length) : sumTL g (j + 1) = sumTL g j + g[j].length := by
  unfold sumTL sumL
  rw [List.take_succ_eq_append_getElem hj, List.map_append, List.sum_append]; simp
theorem sumTL_all (g : List (List Int)) : sumTL g g.length = sumL g := by unfold sumTL; rw [List.take_length]
theorem sumTL_le {g : List (List Int)} (hs : SmallR g 1048576) : ∀ j, j ≤ g.length → sumTL g j ≤ 1048576 * j
  | 0, _ => by simp [sumTL, sumL]
  | j + 1, hj => by
    have := sumTL_le hs j (by omega)
    have h2 := hs.2 j (by omega) (by omega)
    rw [sumTL_succ (by omega)]; omega
theorem sumTL_small {g : List (List Int)} (hs : SmallR g 1048576) {j : Nat} (hj : j ≤ g.length) : sumTL g j ≤ 1099511627776 := by
  have h1 := sumTL_le hs j hj
  have h2 := hs.1
  have h3 : 1048576 * j ≤ 1048576 * 1048576 := Nat.mul_le_mul_left _ (by omega)
  omega
/-- The rows of marks. -/
def marksR (k : Int) (g : List (List Int)) : List (List Int) := (List.range g.length).map fun i => marksL (k + (sumTL g i : Int)) (g.getD i []).length
theorem marksR_len (k : Int) (g : List (List Int)) : (marksR k g).length = g.length := by simp [marksR]
theorem marksR_get {k : Int} {g : List (List Int)} {i : Nat} (h : i < (marksR k g).length) (h2 : i < g.length) : (marksR k g)[i] = marksL (k + (sumTL g i : Int)) g[i].length := by simp [marksR, h2]
theorem marksR_small {k : Int} {g : List (List Int)} (hs : SmallR g 1048576) : SmallR (marksR k g) 1048576 := by
  refine ⟨by rw [marksR_len]; exact hs.1, fun i hi _ => ?_⟩
  have h2 : i < g.length := by rw [marksR_len] at hi; exact hi
  rw [marksR_get hi h2, marksL_len]
  exact hs.2 i h2 h2
theorem SlR.betweenR {S : Nat → Prop} {w w' : World} {v : Value} {g : List (List Int)} {B C : Nat} (h : SlR S w v g) (hb : Between B C w w') (hS : ∀ b, S b → b < w.heap.size ∧ (b < B ∨ C ≤ b)) : SlR S w' v g :=
  h.keep fun b hSb => hb.block b (hS b hSb).1 (hS b hSb).2
theorem eqR_same {S S' : Nat → Prop} {v u : Value} {xs : List (List Int)} {w : World} (hv : SlR S w v xs) (hu : SlR S' w u xs) :
    Calls Tryz.prog 52 #[v, u] w fun e w' => e = .returned (.bool true) ∧ Below w.heap.size w w' := by
  refine (eqInt64SS_any _ _ _ _ _ hv hu).mono ?_
  rintro e w' ⟨rfl, hd⟩
  exact ⟨by rw [decide_eq_true rfl], hd.below _⟩
set_option maxHeartbeats 1000000 in
theorem markRR_any {B C : Nat} {EO : TypeId} {u : Value} {g : List (List Int)} {k : Int} {w : World} (hu : OwnR w B C EO 2 u g) (hs : SmallR g 1048576) (hk0 : 0 ≤ k) (hk1 : k ≤ 100000000000000) :
    Calls Tryz.prog 53 #[u, .int .i64 k] w fun e w' => e = .returned (.int .i64 (k + (sumL g : Int))) ∧ OwnR w' B C EO 2 u (marksR k g) ∧ Between B C w w' := by
  obtain ⟨vs, h1, h2, h3, hap, h4⟩ := hu
  have hgl : g.length ≤ 1048576 := by have := hs.1; omega
  rcases own_none_some h2 with ⟨rfl, hn⟩ | ⟨gb, gc, rfl⟩
  · have hg0 : g = [] := List.eq_nil_of_length_eq_zero hn
    subst hg0
    go_enter Tryz.func53, Tryz.ntmps53
    go_wp2
    go_loopw [5, 1] (fun i m wr => i = .int .i64 0 ∧ m = .int .i64 k ∧ w = wr) (fun _ _ _ => 0)
    case atStart => exact ⟨rfl, rfl, rfl⟩
    case round =>
      obtain ⟨rfl, rfl, rfl⟩ := hrel
      go_wp2
      go_ret
      exact ⟨ret_int (by simp [sumL]), ⟨vs, h1, h2, h3, hap, fun i hi => by simp [marksR] at hi⟩, Between.refl _ _ _⟩
  · have hsum := fun j (hj : j ≤ g.length) => sumTL_small hs hj
    have HSM := Lib.hid hsum
    clear hsum
    go_enter Tryz.func53, Tryz.ntmps53
    go_wp2
    go_loopw [5, 1] (fun i m wr => ∃ j : Nat, j ≤ g.length ∧ i = .int .i64 j ∧ m = .int .i64 (k + (sumTL g j : Int)) ∧ Own wr B EO 1 (.slice (some ⟨gb, 0, none⟩) g.length gc) g.length vs ∧ RowKit.Hid (∀ i (h : i < g.length) (h2 : i < vs.length), Own wr B 2 1 vs[i] g[i].length ((if i < j then marksL (k + (sumTL g i : Int)) g[i].length else g[i]).map (.int .i64))) ∧ Between B C w wr) (fun i _ _ => g.length - (intOf i).toNat)
    case atStart => exact ⟨0, Nat.zero_le _, rfl, by simp [sumTL, sumL], h2, Lib.hid (fun i h h5 => by rw [if_neg (by omega)]; exact (h4 i h h5).1), Between.refl _ _ _⟩
    case round =>
      obtain ⟨j, hj, rfl, rfl, hown, HR, hbt⟩ := hrel
      have hsj := HSM.out j hj
      by_cases hlt : j < g.length
      · have hjv : j < vs.length := by omega
        have hcell : wr.cell? ⟨gb, j, none⟩ = some vs[j] := (World.ownsRow.cellAt hown j (by omega)).trans (List.getElem?_eq_getElem hjv)
        have hx := HR.out j hlt hjv
        rw [if_neg (by omega)] at hx
        have hsm : g[j].length ≤ 1048576 := by have := hs.2 j hlt hlt; omega
        obtain ⟨ra, rc, hre⟩ := hx.isSlice
        have hbl := (h4 j hlt hjv).2
        have hge := (h4 j hlt hjv).1.ge
        rw [hre] at hcell hx hbl hge
        have HRE := Lib.hid hre; clear hre
        have HSS := Lib.hid (sumTL_succ hlt)
        generalize hgs : sumTL g j = sj at *
        have HGS := Lib.hid hgs
        clear hgs
        go_wp2_with fail
        refine (markInt64S_any hx hsm (by omega) (by omega)).mono ?_
        rintro e w' ⟨rfl, hx', hkp⟩
        go_wp2
        go_roundw
        case rel =>
          refine ⟨j + 1, by omega, by go_num, by rw [HSS.out]; congr 1; push_cast; omega, hown.kept hkp (fun b hb he => (hbl b he).2 hb), Lib.hid (fun i hi hi2 => ?_), hbt.trans (hkp.between (fun b hb => ⟨hge b hb, (hbl b hb).1⟩))⟩
          by_cases e : i = j
          · subst e
            rw [if_pos (by omega), HGS.out, HRE.out]
            exact hx'
          · have h5 : (i < j + 1) = (i < j) := by apply propext; omega
            rw [show (if i < j + 1 then marksL (k + (sumTL g i : Int)) g[i].length else g[i]) = (if i < j then marksL (k + (sumTL g i : Int)) g[i].length else g[i]) by simp only [h5]]
            refine (HR.out i hi hi2).kept hkp (fun b hb he => ?_)
            have := hap i j hi2 hjv b hb (by rw [HRE.out]; exact he)
            omega
        case measure => simp [intOf]; omega
      · obtain rfl : j = g.length := by omega
        have HA := Lib.hid (sumTL_all g)
        go_wp2
        go_ret
        refine ⟨ret_int (by rw [HA.out]), ⟨vs, by rw [marksR_len]; exact h1, by rw [marksR_len]; exact hown, h3, hap, fun i hi hi2 => ?_⟩, hbt⟩
        have hi3 : i < g.length := by rw [marksR_len] at hi; exact hi
        have h5 := HR.out i hi3 hi2
        rw [if_pos hi3] at h5
        rw [marksR_get hi hi3, marksL_len]
        exact ⟨h5, (h4 i hi3 hi2).2⟩
set_option maxHeartbeats 1000000 in
theorem heldRR_any {S : Nat → Prop} {u : Value} {g : List (List Int)} {k : Int} {w : World} (hu : SlR S w u (marksR k g)) (hs : SmallR g 1048576) (hk0 : 0 ≤ k) (hk1 : k ≤ 100000000000000) :
    Calls Tryz.prog 54 #[u, .int .i64 k] w fun e w' => e = .returned (.int .i64 (k + (sumL g : Int))) ∧ Below w.heap.size w w' := by
  obtain ⟨a, b, off, cap, f, rfl, hl, ha, hc0⟩ := hu
  simp only [marksR_len] at hl ha ⊢
  have hsum := fun j (hj : j ≤ g.length) => sumTL_small hs hj
  have HSM := Lib.hid hsum
  clear hsum
  go_enter Tryz.func54, Tryz.ntmps54
  go_wp2
  go_loopw [5, 1] (fun i m wr => ∃ j : Nat, j ≤ g.length ∧ i = .int .i64 j ∧ m = .int .i64 (k + (sumTL g j : Int)) ∧ Below w.heap.size w wr) (fun i _ _ => g.length - (intOf i).toNat)
  case atStart => exact ⟨0, Nat.zero_le _, rfl, by simp [sumTL, sumL], Below.refl _ _⟩
  case round =>
    obtain ⟨j, hj, rfl, rfl, hq⟩ := hrel
    have hsj := HSM.out j hj
    by_cases hlt : j < g.length
    · obtain ⟨hcell0, hrow0⟩ := hc0 j (by rw [marksR_len]; exact hlt)
      rw [marksR_get _ hlt] at hrow0
      have hcell := (hq.cell (cell_lt hcell0)).trans hcell0
      have hrow := hrow0.below hq (Nat.le_refl _)
      obtain ⟨rfl, -⟩ := ha (by omega)
      have hsm : g[j].length ≤ 1048576 := by have := hs.2 j hlt hlt; omega
      have HSS := Lib.hid (sumTL_succ hlt)
      have hneg : ¬ (k + (sumTL g j : Int) + (g[j].length : Int)) < 0 := by omega
      generalize hgs : sumTL g j = sj at *
      clear hrow0 hcell0 hgs
      go_wp2_with fail
      refine (heldInt64S_any hrow hsm (by omega) (by omega)).mono ?_
      rintro e w' ⟨rfl, hd⟩
      go_wp2
      go_roundw
      case rel => exact ⟨j + 1, by omega, by go_num, by rw [HSS.out]; congr 1; push_cast; omega, hq.trans (hd.below _)⟩
      case measure => simp [intOf]; omega
    · obtain rfl : j = g.length := by omega
      have HA := Lib.hid (sumTL_all g)
      go_wp2
      go_ret
      exact ⟨ret_int (by rw [HA.out]), hq⟩
theorem eqAround_any {S S' : Nat → Prop} (v u : Value) (xs ys : List (List Int)) (w : World) (hv : SlR S w v xs) (hu : SlR S' w u ys) :
    Calls Tryz.prog 20 #[.agg #[v], .agg #[u]] w fun e w' => e = .returned (.bool (decide (xs = ys))) ∧ Below w.heap.size w w' := by
  have hb : Below w.heap.size w ((w.alloc (.cells #[v] 28)).alloc (.cells #[u] 28)) := (((Below.refl _ _).alloc (Nat.le_refl _) _).alloc (by simp) _)
  by_cases heq : xs = ys
  · have hb1 : decide (xs = ys) = true := by simp [heq]
    have HQ := Lib.hid heq; clear heq
    go_enter Tryz.func20, Tryz.ntmps20
    go_wp2_with (go_at_call 52; refine (eqInt64SS_any _ _ _ _ _ (hv.below hb (Nat.le_refl _)) (hu.below hb (Nat.le_refl _))).mono ?_; rintro e w' ⟨rfl, m, rfl⟩)
    go_ret
    exact ⟨ret_bool hb1.symm, hb.trans (((Drawn.refl _).drewN _).below _)⟩
  · have hb1 : decide (xs = ys) = false := by simpa using heq
    go_enter Tryz.func20, Tryz.ntmps20
    go_wp2_with (go_at_call 52; refine (eqInt64SS_any _ _ _ _ _ (hv.below hb (Nat.le_refl _)) (hu.below hb (Nat.le_refl _))).mono ?_; rintro e w' ⟨rfl, m, rfl⟩)
    go_ret
    exact ⟨ret_bool hb1.symm, hb.trans (((Drawn.refl _).drewN _).below _)⟩
theorem eqAround_same {S S' : Nat → Prop} {v u : Value} {xs : List (List Int)} {w : World} (hv : SlR S w v xs) (hu : SlR S' w u xs) :
    Calls Tryz.prog 20 #[.agg #[v], .agg #[u]] w fun e w' => e = .returned (.bool true) ∧ Below w.heap.size w w' := by
  refine (eqAround_any _ _ _ _ _ hv hu).mono ?_
  rintro e w' ⟨rfl, hd⟩
  exact ⟨by rw [decide_eq_true rfl], hd⟩
theorem markAround_any {B C : Nat} {EO : TypeId} {u : Value} {g : List (List Int)} {k : Int} {w : World} (hu : OwnR w B C EO 2 u g) (hs : SmallR g 1048576) (hC : C ≤ w.heap.size) (hk0 : 0 ≤ k) (hk1 : k ≤ 100000000000000) :
    Calls Tryz.prog 23 #[.agg #[u], .int .i64 k] w fun e w' => ∃ k' : Int, e = .returned (.int .i64 k') ∧ 0 ≤ k' ∧ k' ≤ k + 1099511627776 ∧ Between B C w w' := by
  have hbl : Below w.heap.size w (w.alloc (.cells #[u] 28)) := (Below.refl _ _).alloc (Nat.le_refl _) _
  have hu1 := hu.below hbl (Nat.le_refl _)
  obtain ⟨ua, uc, rfl⟩ := hu.isSlice
  go_enter Tryz.func23, Tryz.ntmps23
  go_wp2_with fail
  refine (markRows_any hu1 hs hk0 hk1).mono ?_
  rintro e w' ⟨k', rfl, h1, h2, h3⟩
  have hs3 := h3.size
  have hC1 := hC
  simp at hs3
  go_wp2
  go_ret
  exact ⟨k', rfl, h1, h2, h3.os, h3.tape, h3.output, by omega, fun b hb hB => (h3.block b (by simp; omega) hB).trans (hbl.block b hb)⟩
end Go.Proofs.YtdbanndcdbikmaaGreatDoor
