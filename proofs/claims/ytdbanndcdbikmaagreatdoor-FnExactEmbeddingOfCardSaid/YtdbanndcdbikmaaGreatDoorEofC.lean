/- EmbeddingOf's function: it keeps the least system that it was given. -/
import Derived.Test.YtdbanndcdbikmaaGreatDoorHrT
import Derived.Test.YtdbanndcdbikmaaGreatDoorCmpJ
import Derived.Test.YtdbanndcdbikmaaGreatDoorMir3
namespace Go.Proofs.YtdbanndcdbikmaaGreatDoor
open Go.RowKit
def efB (t s : List (List Nat)) : List (List Nat) := if s = [] ∨ cmpR (t.map rotL) s < 0 then t.map rotL else s
def SmK (t : List (List Nat)) : Prop := 0 < t.length ∧ t.length ≤ 1000 ∧ ∀ l ∈ t, l.length ≤ 1000 ∧ ∀ x ∈ l, x < 1048576
theorem OwnR.keepB {w w' : World} {B C : Nat} {EO EI : TypeId} {u : Value} {g : List (List Int)} (h : OwnR w B C EO EI u g) (hk : ∀ b, B ≤ b → b < C → w'.heap[b]? = w.heap[b]?) : OwnR w' B C EO EI u g := by
  obtain ⟨vs, h1, h2, h3, hap, h4⟩ := h
  exact ⟨vs, h1, h2.keep fun b hb => hk b (h2.ge b hb) (h3 b hb), h3, hap, fun i hi hi2 => ⟨(h4 i hi hi2).1.keep fun b hb => hk b ((h4 i hi hi2).1.ge b hb) ((h4 i hi hi2).2 b hb).1, (h4 i hi hi2).2⟩⟩
theorem Own.atB {w : World} {B B1 : Nat} {E : TypeId} {size : Nat} {v : Value} {n : Nat} {xs : List Value} (h : Own w B E size v n xs) (h1 : ∀ k, v.ownBlock = some k → B1 ≤ k) : Own w B1 E size v n xs := by
  refine ⟨h.1, ?_⟩
  rcases h.2 with ⟨hv, hn⟩ | ⟨g, cap, cur, rfl, hb, rest⟩
  · exact .inl ⟨hv, hn⟩
  · exact .inr ⟨g, cap, cur, rfl, h1 g rfl, rest⟩
theorem OwnR.sub {w : World} {B C B1 C1 : Nat} {EO EI : TypeId} {u : Value} {g : List (List Int)} (h : OwnR w B C EO EI u g) (hk : ∀ b, B ≤ b → b < C → B1 ≤ b ∧ b < C1) : OwnR w B1 C1 EO EI u g := by
  obtain ⟨vs, h1, h2, h3, hap, h4⟩ := h
  exact ⟨vs, h1, h2.atB fun b hb => (hk b (h2.ge b hb) (h3 b hb)).1, fun b hb => (hk b (h2.ge b hb) (h3 b hb)).2, hap, fun i hi hi2 => ⟨(h4 i hi hi2).1.atB fun b hb => (hk b ((h4 i hi hi2).1.ge b hb) ((h4 i hi hi2).2 b hb).1).1, fun b hb => ⟨(hk b ((h4 i hi hi2).1.ge b hb) ((h4 i hi hi2).2 b hb).1).2, ((h4 i hi hi2).2 b hb).2⟩⟩⟩
theorem OwnR.subL {w : World} {B C B1 : Nat} {EO EI : TypeId} {u : Value} {g : List (List Int)} (h : OwnR w B C EO EI u g) (hk : ∀ b, B ≤ b → b < C → B1 ≤ b) : OwnR w B1 w.heap.size EO EI u g := by
  obtain ⟨vs, h1, h2, h3, hap, h4⟩ := h
  exact ⟨vs, h1, h2.atB fun b hb => hk b (h2.ge b hb) (h3 b hb), fun b hb => (h2.lt b hb).2, hap, fun i hi hi2 => ⟨(h4 i hi hi2).1.atB fun b hb => hk b ((h4 i hi hi2).1.ge b hb) ((h4 i hi hi2).2 b hb).1, fun b hb => ⟨((h4 i hi hi2).1.lt b hb).2, ((h4 i hi hi2).2 b hb).2⟩⟩⟩
theorem smK_rot {t : List (List Nat)} (h : SmK t) : SmK (t.map rotL) := by
  obtain ⟨h0, h1, h2⟩ := h
  refine ⟨by simpa using h0, by simpa using h1, fun l hl => ?_⟩
  obtain ⟨r, hr, rfl⟩ := List.mem_map.1 hl
  obtain ⟨h3, h4⟩ := h2 r hr
  have hp := rotL_perm r
  exact ⟨by rw [hp.length_eq]; exact h3, fun x hx => h4 x (hp.mem_iff.1 hx)⟩
theorem smK_small {t : List (List Nat)} (h : SmK t) : SmallR (t.map natsI) 1048576 := by
  obtain ⟨h0, h1, h2⟩ := h
  refine ⟨by simp; omega, fun i hi _ => ?_⟩
  have hi' : i < t.length := by simpa using hi
  rw [List.getElem_map, natsI_len]
  have := (h2 t[i] (List.getElem_mem hi')).1
  omega
/-- Whether one is found, and the least so far. -/
structure BestAt (cb db B C : Nat) (bv : Value) (s : List (List Nat)) (w : World) : Prop where
  ne : cb ≠ db
  cf : w.cell? ⟨cb, 0, none⟩ = some (.bool (decide (s ≠ [])))
  ff : w.frozen? ⟨cb, 0, none⟩ = false
  cv : w.cell? ⟨db, 0, none⟩ = some bv
  fv : w.frozen? ⟨db, 0, none⟩ = false
  own : OwnR w B C 36 2 bv (s.map natsI)
  sm : s = [] ∨ SmK s
def BestF (cb db B C : Nat) (b : Nat) : Prop := b = cb ∨ b = db ∨ (B ≤ b ∧ b < C)
def BestSt (cb db : Nat) (F : Nat → Prop) (s : List (List Nat)) (w : World) : Prop := ∃ (B C : Nat) (bv : Value), F = BestF cb db B C ∧ BestAt cb db B C bv s w
theorem BestAt.keep {cb db B C : Nat} {bv : Value} {s : List (List Nat)} {w w' : World} (h : BestAt cb db B C bv s w) (hw : ∀ b, BestF cb db B C b → w'.heap[b]? = w.heap[b]?) : BestAt cb db B C bv s w' :=
  ⟨h.ne, (cell_heap (hw cb (.inl rfl))).trans h.cf, (World.frozen?_of_block (hw cb (.inl rfl))).trans h.ff, (cell_heap (hw db (.inr (.inl rfl)))).trans h.cv, (World.frozen?_of_block (hw db (.inr (.inl rfl)))).trans h.fv, h.own.keepB fun b h1 h2 => hw b (.inr (.inr ⟨h1, h2⟩)), h.sm⟩
theorem best_not {cb db : Nat} {F : Nat → Prop} {s : List (List Nat)} {w w1 : World} (hst : BestSt cb db F s w) (hF : ∀ b, F b → b < w.heap.size) (hb1 : Below w.heap.size w w1) :
    BestSt cb db F s w1 ∧ (∀ b, F b → F b ∨ w.heap.size ≤ b) ∧ (∀ b, F b → b < w1.heap.size) ∧ Keeps F w w1 := by
  obtain ⟨B, C, bv, rfl, h⟩ := hst
  exact ⟨⟨B, C, bv, rfl, h.keep fun b hb => hb1.block b (hF b hb)⟩, fun b hb => .inl hb, fun b hb => Nat.lt_of_lt_of_le (hF b hb) hb1.size, Keeps.ofBelow _ hb1⟩
theorem best_put {cb db : Nat} {F : Nat → Prop} {s R : List (List Nat)} {w w1 : World} {x : Value} {B1 C1 : Nat} (hst : BestSt cb db F s w) (hF : ∀ b, F b → b < w.heap.size) (hb1 : Below w.heap.size w w1)
    (hx : OwnR w1 B1 C1 36 2 x (R.map natsI)) (hB : w.heap.size ≤ B1) (hC : C1 ≤ w1.heap.size) (hR : SmK R) :
    BestSt cb db (BestF cb db B1 C1) R ((w1.setCell ⟨db, 0, none⟩ x).setCell ⟨cb, 0, none⟩ (.bool true)) ∧ (∀ b, BestF cb db B1 C1 b → F b ∨ w.heap.size ≤ b) ∧ (∀ b, BestF cb db B1 C1 b → b < ((w1.setCell ⟨db, 0, none⟩ x).setCell ⟨cb, 0, none⟩ (.bool true)).heap.size) ∧ Keeps F w ((w1.setCell ⟨db, 0, none⟩ x).setCell ⟨cb, 0, none⟩ (.bool true)) := by
  obtain ⟨B, C, bv, rfl, h⟩ := hst
  have hcl := hF cb (.inl rfl)
  have hdl := hF db (.inr (.inl rfl))
  have h1 : BestAt cb db B C bv s w1 := h.keep fun b hb => hb1.block b (hF b hb)
  have hd1 : (⟨db, 0, none⟩ : Addr) ≠ ⟨cb, 0, none⟩ := fun e => h.ne (congrArg Addr.block e).symm
  have hR0 : R ≠ [] := fun e => by have := hR.1; rw [e] at this; simp at this
  have hsz : ((w1.setCell ⟨db, 0, none⟩ x).setCell ⟨cb, 0, none⟩ (.bool true)).heap.size = w1.heap.size := by simp
  have hq := hb1.size
  obtain ⟨y, hy⟩ := cell?_setCell_some (p := ⟨db, 0, none⟩) (x := x) h1.cf
  refine ⟨⟨B1, C1, x, rfl, h.ne, ?_, ?_, ?_, ?_, ?_, .inr hR⟩, fun b hb => ?_, fun b hb => ?_, ?_⟩
  · rw [World.cell?_setCell_same _ _ _ hy]
    simp [hR0]
  · rw [World.frozen?_setCell, World.frozen?_setCell]; exact h1.ff
  · rw [World.cell?_setCell_other _ _ _ _ (fun e => hd1 e.symm), World.cell?_setCell_same _ _ _ h1.cv]
  · rw [World.frozen?_setCell, World.frozen?_setCell]; exact h1.fv
  · exact hx.keepB fun b h2 h3 => by
      rw [Below.heap_setCell _ _ _ _ (fun e => by have e2 : b = cb := (by simpa [eq_comm] using e); omega), Below.heap_setCell _ _ _ _ (fun e => by have e2 : b = db := (by simpa [eq_comm] using e); omega)]
  · rcases hb with hb | hb | hb
    · exact .inl (.inl hb)
    · exact .inl (.inr (.inl hb))
    · exact .inr (by omega)
  · rw [hsz]
    rcases hb with hb | hb | hb <;> omega
  · have k1 : Keeps (BestF cb db B C) w w1 := Keeps.ofBelow _ hb1
    have k2 := k1.trans (Keeps.set (w := w1) (F := BestF cb db B C) (a := ⟨db, 0, none⟩) (.inr (.inl rfl)) x) fun _ _ h => h
    exact k2.trans (Keeps.set (F := BestF cb db B C) (a := ⟨cb, 0, none⟩) (.inl rfl) (.bool true)) fun _ _ h => h
set_option maxHeartbeats 4000000 in
theorem eachBest (cb db : Nat) : EachT Tryz.prog 49 cb db (BestSt cb db) efB SmK := by
  refine ⟨?_, fun args w => run_enter Tryz.func49 (by kernel_rfl) rfl args w, ?_⟩
  · intro F s tv t w hst hv hF hK
    have har := aroundOf_any hv (by have := hK.2.1; omega) (fun l hl => ⟨by have := (hK.2.2 l hl).1; omega, (hK.2.2 l hl).2⟩)
    obtain ⟨ta, tc, rfl⟩ := hv.slice
    have HR := Lib.hid (smK_rot hK)
    have HPT := Lib.hid (fun (W : World) (hb : Below w.heap.size w W) (x : Value) (hx : OwnR W w.heap.size W.heap.size 36 2 x ((t.map rotL).map natsI)) => fun (o : Obj) => best_put (w1 := W.alloc o) hst hF (hb.alloc hb.size _) (hx.below ((Below.refl _ _).alloc (Nat.le_refl _) o) (Nat.le_refl _)) (Nat.le_refl _) (by simp) HR.out)
    have HNT := Lib.hid (fun (W : World) (hb : Below w.heap.size w W) => best_not hst hF hb)
    rw [List.length_map] at har ⊢
    clear hK hv
    go_enter Tryz.func49, Tryz.ntmps49
    go_wp2_with fail
    refine har.mono ?_
    rintro e w1 ⟨x, rfl, hx, hb1⟩
    obtain ⟨xa, xc, rfl⟩ := hx.isSlice
    have hlen : ((t.map rotL).map natsI).length = t.length := by simp
    rw [hlen] at hx
    clear hlen
    have hxr := hx.rows (smK_small HR.out)
    have hpt := Lib.hid (HPT.out w1 hb1 _ hx)
    have hb2 : ∀ o : Obj, Below w.heap.size w (w1.alloc o) := fun o => hb1.alloc hb1.size o
    have hnt := Lib.hid (fun o => HNT.out _ (hb2 o))
    obtain ⟨B, C, bv, rfl, hA⟩ := hst
    have hA2 : ∀ o : Obj, BestAt cb db B C bv s (w1.alloc o) := fun o => hA.keep fun b hb => (hb2 o).block b (hF b hb)
    have c0 : ∀ o : Obj, (w1.alloc o).cell? ⟨cb, 0, none⟩ = some (.bool (decide (s ≠ []))) := fun o => (hA2 o).cf
    have c1 : ∀ o : Obj, (w1.alloc o).cell? ⟨db, 0, none⟩ = some bv := fun o => (hA2 o).cv
    have f1 : ∀ o : Obj, (w1.alloc o).frozen? ⟨db, 0, none⟩ = false := fun o => (hA2 o).fv
    have c2 : ∀ (o : Obj) (v : Value), ((w1.alloc o).setCell ⟨db, 0, none⟩ v).cell? ⟨cb, 0, none⟩ = some (.bool (decide (s ≠ []))) := fun o v => by
      rw [World.cell?_setCell_other _ _ _ _ (fun e => hA.ne (congrArg Addr.block e).symm)]; exact c0 o
    have f2 : ∀ (o : Obj) (v : Value), ((w1.alloc o).setCell ⟨db, 0, none⟩ v).frozen? ⟨cb, 0, none⟩ = false := fun o v => by
      rw [World.frozen?_setCell]; exact (hA2 o).ff
    by_cases h0 : s = []
    · have HE := Lib.hid (show efB t s = t.map rotL by unfold efB; rw [if_pos (.inl h0)])
      have hd : decide (s ≠ []) = false := by simp [h0]
      simp only [hd] at c0 c2
      clear hd h0 hA2 hA hnt har HPT HNT hxr hx
      go_wp2
      go_end0
      exact ⟨_, rfl, by rw [HE.out]; exact (hpt.out _).1, (hpt.out _).2⟩
    · have hd : decide (s ≠ []) = true := by simp [h0]
      simp only [hd] at c0 c2
      obtain ⟨ba, bc, rfl⟩ := hA.own.isSlice
      rw [List.length_map] at *
      have hcp := fun o : Obj => compareR_any (hxr.below ((Below.refl _ _).alloc (Nat.le_refl _) o) (Nat.le_refl _)) ((hA2 o).own.rows (smK_small (hA.sm.resolve_left h0)))
      obtain ⟨c, hc⟩ : ∃ c, c = cmpR (t.map rotL) s := ⟨_, rfl⟩
      rw [← hc] at hcp
      have HEF := Lib.hid (show efB t s = if c < 0 then t.map rotL else s by
        unfold efB
        rw [← hc]
        by_cases h : c < 0
        · rw [if_pos (.inr h), if_pos h]
        · rw [if_neg (fun hn => hn.elim h0 h), if_neg h])
      clear hd hc h0 hA2 hA har HPT HNT hxr hx
      by_cases hn : c < 0
      · have HE := Lib.hid (HEF.out.trans (if_pos hn))
        have hd : decide (c < 0) = true := decide_eq_true hn
        clear HEF hn
        go_wp2_with (go_at_call 50; with_reducible refine (hcp _).mono ?_; rintro e w' ⟨rfl, rfl⟩)
        go_end0
        exact ⟨_, rfl, by rw [HE.out]; exact (hpt.out _).1, (hpt.out _).2⟩
      · have HE := Lib.hid (HEF.out.trans (if_neg hn))
        have hd : decide (c < 0) = false := decide_eq_false hn
        clear HEF hn
        go_wp2_with (go_at_call 50; with_reducible refine (hcp _).mono ?_; rintro e w' ⟨rfl, rfl⟩)
        go_end0
        exact ⟨_, rfl, by rw [HE.out]; exact (hnt.out _).1, (hnt.out _).2⟩
  · intro F s w w' hst hw
    obtain ⟨B, C, bv, rfl, h⟩ := hst
    exact ⟨B, C, bv, rfl, h.keep hw⟩
end Go.Proofs.YtdbanndcdbikmaaGreatDoor
