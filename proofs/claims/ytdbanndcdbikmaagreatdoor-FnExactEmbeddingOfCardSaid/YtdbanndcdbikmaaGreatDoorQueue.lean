/- Slices of a call's own that are cut at the front: queues. -/
import Derived.Test.YtdbanndcdbikmaaGreatDoorOwn
import Derived.Laws.IdiomCopy
import Derived.ArgAppend
namespace Go.Proofs.YtdbanndcdbikmaaGreatDoor
open Go.RowKit
/-- v is a slice of the call's own (its block from B on), wherever it begins in its array; one cell an element. -/
def OwnQ (w : World) (B : Nat) (v : Value) (xs : List Value) : Prop :=
  ∃ g off cap, v = .slice (some ⟨g, off, none⟩) xs.length cap ∧ B ≤ g ∧ g < w.heap.size ∧ xs.length ≤ cap ∧ cap ≤ maxLen ∧ (∀ j, j < cap → (w.cell? ⟨g, off + j, none⟩).isSome = true) ∧
    (∀ j, w.frozen? ⟨g, j, none⟩ = false) ∧ ∀ j (h : j < xs.length), w.cell? ⟨g, off + j, none⟩ = some xs[j]
theorem OwnQ.ofOwn {w : World} {B g n cap : Nat} {E : TypeId} {xs : List Value} (h : Own w B E 1 (.slice (some ⟨g, 0, none⟩) n cap) n xs) : OwnQ w B (.slice (some ⟨g, 0, none⟩) n cap) xs := by
  have hf := fun j => World.ownsRow.frozenAt h j
  have hl := h.1
  have hcl := fun j hj => World.ownsRow.cellAt h j hj
  simp only [Nat.mul_one] at hl hcl
  rcases h.2 with ⟨hv, hn⟩ | ⟨g', cap', cur, hv, hb, hg, hnc, hcm, hcs, ht⟩
  · cases hv
  · simp only [Value.slice.injEq, Option.some.injEq, Addr.mk.injEq, and_true, true_and] at hv
    obtain ⟨rfl, rfl⟩ := hv
    refine ⟨g, 0, cap, by rw [hl], hb, (Array.getElem?_eq_some_iff.1 hg).1, by omega, hcm, fun j hj => ?_, hf, fun j hj => ?_⟩
    · rw [cell_of_row w g (0 + j) cur E (0, 0) hg]
      rw [Nat.mul_one] at hcs
      simp [show j < cur.size by omega]
    · rw [Nat.zero_add, hcl j (by omega)]; exact List.getElem?_eq_getElem hj
theorem OwnQ.keep {w w' : World} {B : Nat} {v : Value} {xs : List Value} (h : OwnQ w B v xs) (hs : w.heap.size ≤ w'.heap.size) (hk : ∀ k, v.ownBlock = some k → w'.heap[k]? = w.heap[k]?) : OwnQ w' B v xs := by
  obtain ⟨g, off, cap, rfl, h1, h2, h3, h4, h5, h6, h7⟩ := h
  have hb := hk g rfl
  exact ⟨g, off, cap, rfl, h1, by omega, h3, h4, fun j hj => by rw [World.cell?_of_block (a := ⟨g, off + j, none⟩) hb]; exact h5 j hj, fun j => by rw [World.frozen?_of_block (a := ⟨g, j, none⟩) hb]; exact h6 j, fun j hj => (World.cell?_of_block (a := ⟨g, off + j, none⟩) hb).trans (h7 j hj)⟩
theorem OwnQ.lt {w : World} {B : Nat} {v : Value} {xs : List Value} (h : OwnQ w B v xs) : ∀ k, v.ownBlock = some k → B ≤ k ∧ k < w.heap.size := by
  obtain ⟨g, off, cap, rfl, h1, h2, _⟩ := h
  intro k hk; simp [Value.ownBlock] at hk; omega
theorem OwnQ.below {w w' : World} {B B1 : Nat} {v : Value} {xs : List Value} (h : OwnQ w B v xs) (hb : Below B1 w w') (hB : w.heap.size ≤ B1) : OwnQ w' B v xs :=
  h.keep hb.size fun k hk => hb.block k (by have := (h.lt k hk).2; omega)
theorem OwnQ.drawn {w w' : World} {B : Nat} {v : Value} {xs : List Value} (h : OwnQ w B v xs) (hb : Drawn w w') : OwnQ w' B v xs := h.keep (by rw [hb.heap]; exact Nat.le_refl _) fun k _ => by rw [hb.heap]
theorem OwnQ.kept {w w' : World} {B : Nat} {v : Value} {xs : List Value} {row : Option Nat} (h : OwnQ w B v xs) (hk : KeptBut w w' row) (hr : ∀ k, v.ownBlock = some k → row ≠ some k) : OwnQ w' B v xs :=
  h.keep hk.2.2.2.1 fun k hv => hk.2.2.2.2 k (h.lt k hv).2 (fun e => hr k hv e.symm)
theorem OwnQ.alloc {w : World} {B : Nat} {v : Value} {xs : List Value} (h : OwnQ w B v xs) (o : Obj) : OwnQ (w.alloc o) B v xs := h.keep (by simp) fun k hk => Below.heap_alloc w o k (h.lt k hk).2
theorem OwnQ.ints {w : World} {B : Nat} {v : Value} {k : IntKind} {xs : List Int} (h : OwnQ w B v (xs.map (.int k))) : SlI (fun b => v.ownBlock = some b) w k v xs := by
  obtain ⟨g, off, cap, rfl, h1, h2, h3, h4, h5, h6, h7⟩ := h
  simp only [List.length_map] at h3 h7 ⊢
  unfold maxLen at h4
  refine ⟨some ⟨g, off, none⟩, g, off, cap, rfl, ⟨h3, by omega⟩, fun _ => ⟨rfl, rfl⟩, fun i hi => ?_⟩
  have := h7 i (by simpa using hi)
  rw [List.getElem_map] at this; exact this
/-- The first element taken off. -/
theorem OwnQ.rest {w : World} {B g off n c : Nat} {x : Value} {xs : List Value} (h : OwnQ w B (.slice (some ⟨g, off, none⟩) n c) (x :: xs)) (hc : ¬ c = 1) : OwnQ w B (.slice (some ⟨g, off + 1, none⟩) (n - 1) (c - 1)) xs := by
  obtain ⟨g', off', cap, hv, h1, h2, h3, h4, h5, h6, h7⟩ := h
  simp only [Value.slice.injEq, Option.some.injEq, Addr.mk.injEq, and_true] at hv
  obtain ⟨⟨rfl, rfl⟩, rfl, rfl⟩ := hv
  simp only [List.length_cons] at h3
  refine ⟨g, off + 1, c - 1, by simp, h1, h2, by omega, by unfold maxLen at h4 ⊢; omega, fun j hj => ?_, h6, fun j hj => ?_⟩
  · have := h5 (j + 1) (by omega)
    rw [show off + 1 + j = off + (j + 1) by omega]; exact this
  · have := h7 (j + 1) (by simp; omega)
    rw [show off + 1 + j = off + (j + 1) by omega]; simpa using this
theorem OwnQ.rest1 {w : World} {B g off n c : Nat} {x : Value} {xs : List Value} (h : OwnQ w B (.slice (some ⟨g, off, none⟩) n c) (x :: xs)) (hc : c = 1) : xs = [] ∧ OwnQ w B (.slice (some ⟨g, off, none⟩) (n - 1) (c - 1)) xs := by
  obtain ⟨g', off', cap, hv, h1, h2, h3, h4, h5, h6, h7⟩ := h
  simp only [Value.slice.injEq, Option.some.injEq, Addr.mk.injEq, and_true] at hv
  obtain ⟨⟨rfl, rfl⟩, rfl, rfl⟩ := hv
  simp only [List.length_cons] at h3
  have hx : xs = [] := List.eq_nil_of_length_eq_zero (by omega)
  subst hx
  exact ⟨rfl, g, off, c - 1, by simp, h1, h2, by simp, by unfold maxLen; omega, fun j hj => by omega, h6, fun j hj => by simp at hj⟩
theorem OwnQ.cut {w : World} {B g off n c : Nat} {o x : Value} {xs : List Value} (h : OwnQ w B (.slice (some ⟨g, off, none⟩) n c) (x :: xs)) (hap : Apart o (.slice (some ⟨g, off, none⟩) n c)) :
    ∃ qv, (c = 1 ∧ qv = Value.slice (some ⟨g, off, none⟩) (n - 1) 0 ∨ ¬ c = 1 ∧ qv = Value.slice (some ⟨g, off + 1, none⟩) (n - 1) (c - 1)) ∧ OwnQ w B qv xs ∧ Apart o qv := by
  by_cases hc : c = 1
  · have h1 := (h.rest1 hc).2
    subst hc
    exact ⟨_, .inl ⟨rfl, rfl⟩, h1, fun k hk hk2 => hap k hk (by simpa [Value.ownBlock] using hk2)⟩
  · exact ⟨_, .inr ⟨hc, rfl⟩, h.rest hc, fun k hk hk2 => hap k hk (by simpa [Value.ownBlock] using hk2)⟩
theorem append_runQ {P : Program} {w : World} {T ty E : TypeId} {bytes : Nat} {z : Value} (hE : Elem P T E 1 bytes z) {B : Nat} {v : Value} {xs : List Value} (hown : OwnQ w B v xs)
    {nb : Nat} {u : Value} (hu : w.cell? ⟨nb, 0, none⟩ = some u) (h1 : u.oneCell' = true) (h63 : xs.length + 1 ≤ 1099511627) (hB : B ≤ w.heap.size) :
    ∃ v' w', (Builtin.append_ #[T, T] ty #[v, .slice (some ⟨nb, 0, none⟩) 1 1]).run P w = .ok v' w' ∧ OwnQ w' B v' (xs ++ [u]) ∧ KeptBut w w' v.ownBlock ∧ Moved w v v' := by
  obtain ⟨i, hi, hzz⟩ := Option.map_eq_some_iff.1 hE.hi
  simp only [Prod.mk.injEq] at hzz
  obtain ⟨hz, hsz, hby⟩ := hzz
  have hbb := hE.hb
  have hbytes : (xs.length + 1) * i.bytes ≤ 140737488355328 := by
    rw [hby]
    have : (xs.length + 1) * bytes ≤ 1099511627 * 4096 := Nat.mul_le_mul h63 hbb
    omega
  have hnews : ∀ j u', [u][j]? = some u' → w.cell? ((⟨nb, 0, none⟩ : Addr).add j) = some u' := fun j u' hj => by
    match j, hj with
    | 0, hj => simp at hj; subst hj; simpa [Addr.add] using hu
  have hone : ∀ x ∈ [u], x.oneCell' = true := fun x hx => by simp at hx; subst hx; exact h1
  obtain ⟨g, off, cap, rfl, a1, a2, a3, a4, a5, a6, a7⟩ := hown
  by_cases hroom : xs.length + 1 ≤ cap
  · have hr := run_append_room_cells (P := P) w T ty E i hE.ht hi g off xs.length cap ⟨nb, 0, none⟩ 1 1 [u] (by simp [hsz]) hnews hone hroom
      (fun j hj => by rw [hsz, show off + xs.length * 1 + j = off + (xs.length + j) by omega]; exact a5 _ (by simp at hj; omega))
      (fun j hj => a6 _)
    rw [hsz, Nat.mul_one] at hr
    have hsm : ∀ j, j < [u].length → (w.cell? ⟨g, off + xs.length + j, none⟩).isSome = true := fun j hj => by rw [Nat.add_assoc]; exact a5 _ (by simp at hj; omega)
    have hkept : KeptBut w (w.setCells g (off + xs.length) [u]) (some g) := by
      refine ⟨rfl, rfl, rfl, by simp [World.setCells], fun k _ hk => Below.heap_setCell _ _ _ _ (fun e => hk (by simp at e; rw [e]))⟩
    refine ⟨_, _, hr, ⟨g, off, cap, by simp, a1, by have := hkept.2.2.2.1; omega, by simpa using hroom, a4, fun j hj => ?_, fun j => (World.frozen?_setCells g _ _ _ _).trans (a6 j), fun j hj => ?_⟩, hkept, .inl rfl⟩
    · by_cases e : j = xs.length
      · subst e
        have := World.cell?_setCells_in g [u] (off + xs.length) w hsm 0 (by simp)
        rw [Nat.add_zero] at this
        rw [this]; rfl
      · rw [World.cell?_setCells_out g [u] (off + xs.length) w _ (fun _ _ => by simp; omega)]
        exact a5 j hj
    · by_cases e : j = xs.length
      · subst e
        have := World.cell?_setCells_in g [u] (off + xs.length) w hsm 0 (by simp)
        rw [Nat.add_zero] at this
        rw [this]; simp
      · have hj2 : j < xs.length := by simp at hj; omega
        rw [World.cell?_setCells_out g [u] (off + xs.length) w _ (fun _ _ => by simp; omega), List.getElem_append_left hj2]
        exact a7 j hj2
  · have hr := run_append_grow (P := P) w T ty E i z hE.ht hi hz ⟨g, off, none⟩ xs.length cap xs (by rw [hsz, Nat.mul_one]) (fun j x hx => by
        obtain ⟨hj, rfl⟩ := List.getElem?_eq_some_iff.1 hx
        rw [Addr.add_lit]; exact a7 j hj) ⟨nb, 0, none⟩ 1 1 [u] (by simp [hsz]) hnews (by omega) (by omega) (growslice_fits (by omega) hbytes)
    have hge := grownCap_ge w (xs.length + 1) cap E
    have hcm : grownCap w (xs.length + 1) cap E ≤ maxLen := grownCap_le_maxLen w (xs.length + 1) cap E (by unfold maxLen; omega)
    refine ⟨_, _, hr, OwnQ.ofOwn (E := E) ⟨by simp, .inr ⟨w.heap.size, _, _, rfl, hB, heap_alloc_new w.drew _, hge, hcm, ?_, ?_⟩⟩, ⟨rfl, rfl, rfl, by simp, fun k hk _ => Below.heap_alloc w.drew _ k hk⟩, .inr rfl⟩
    · simp only [Array.size_append, List.size_toArray, size_zeroCells, hE.hz, List.length_cons, List.length_nil]
      omega
    · simp only [Array.toList_append, List.append_assoc]
      rw [← List.append_assoc]
      exact List.take_left' (by simp)
/-- append(s, x) at a queue. -/
theorem wpList_appendQ {P : Program} {w : World} {T E : TypeId} {bytes : Nat} {z : Value} (hE : Elem P T E 1 bytes z) {B : Nat}
    {ops : Array Oper} {rest : List Oper} {o : Oper} {a : Act} {Q : Exit → Act → World → Prop} (hgd : o.guard = none) (s x : Operand)
    (ho : o.op = .call { callee := .builtin .append, args := #[s, x], argTypes := #[T, T] })
    {v : Value} {xs : List Value} (hown : OwnQ w B v xs) (hs : a.eval s = v) {u : Value} {nb : Nat} (hnb : nb = w.heap.size)
    (hx : a.eval x = .slice (some ⟨nb, 0, none⟩) 1 1) (h1 : u.oneCell' = true)
    (h63 : xs.length + 1 ≤ 1099511627) (hbase : B ≤ w.heap.size)
    (h : ∀ v' w', OwnQ w' B v' (xs ++ [u]) → KeptBut w w' v.ownBlock → Moved (w.alloc (.cells #[u] E)) v v' → wpList P ops Q rest (a.put o.dst v') w') : wpList P ops Q (o :: rest) a (w.alloc (.cells #[u] E)) := by
  subst hnb
  refine wpList_plain hgd fun _ hK => ?_
  obtain ⟨v', w', hr, h2, h3, h4⟩ := append_runQ (ty := o.type) hE (hown.alloc (.cells #[u] E)) (nb := w.heap.size) (u := u) (by simp [go_sem]) h1 h63 (by simp; omega)
  unfold Oper.wp execOp
  simp only [ho, resolve, invoke, builtin, Sem.run_bind, Sem.run_pure, Result.andThen_ok, List.map_toArray, List.map_cons, List.map_nil, hs, hx, hr]
  exact hK _ _ (h v' w' h2 ⟨h3.1, h3.2.1, h3.2.2.1, Nat.le_trans (by simp) h3.2.2.2.1, fun k hk hr => (h3.2.2.2.2 k (by simp; omega) hr).trans (Below.heap_alloc w _ k hk)⟩ h4)
end Go.Proofs.YtdbanndcdbikmaaGreatDoor
