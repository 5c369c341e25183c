/- Facts of the law of symmetries: orbits, degrees, the complement. -/
import Derived.Test.YtplohdnakllbiaaOrbM
import Derived.Test.YtplohdnakllbiaaLink
import Derived.Test.YtplohdnakllbiaaDraw
namespace Go.Proofs.Ytplohdnakllbiaa
open Go.RowKit
theorem flat_len {α : Type} (f : Nat → List α) : ∀ l : List Nat, (l.flatMap f).length = (l.map fun v => (f v).length).sum
  | [] => rfl
  | x :: l => by rw [List.flatMap_cons, List.length_append, flat_len f l]; rfl
theorem cnt_all (H Q : List Nat) : ∀ (d : Nat) (q : List Nat), cntN H Q d q = (allF H Q d q).length
  | 0, q => rfl
  | d + 1, q => by
    rw [cntN, allF, flat_len, sumV]
    congr 1
    apply List.map_congr_left
    intro v _
    by_cases h : okB H Q q v = true
    · rw [if_pos h, if_pos h, cnt_all H Q d]
    · rw [if_neg h, if_neg h]; rfl
theorem cnt_pos {H : List Nat} (hs : SymH H) (hn : 0 < H.length) : 0 < cntN H H H.length [] := by
  rw [cnt_all]
  have h := id_moves hs hn
  rw [movesB, List.any_eq_true] at h
  obtain ⟨q, hq, -⟩ := h
  exact List.length_pos_of_mem hq
/-- Two tables of which one says the contrary of the other. -/
structure CoH (H K : List Nat) : Prop where
  len : K.length = H.length
  bit : ∀ x y, x < H.length → y < H.length → x ≠ y → (K.getD x 0).testBit y = !(H.getD x 0).testBit y
theorem beq_not (a b : Bool) : ((!a) == (!b)) = (a == b) := by cases a <;> cases b <;> rfl
theorem okB_co {H K : List Nat} (h : CoH H K) {q : List Nat} {v : Nat} (hq : ∀ a ∈ q, a < H.length) (hl : q.length < H.length) (hv : v < H.length) : okB K K q v = okB H H q v := by
  unfold okB fitTo
  by_cases hm : v ∈ q
  · simp [hm]
  · congr 1
    rw [Bool.eq_iff_iff, List.all_eq_true, List.all_eq_true]
    have key : ∀ j ∈ List.range q.length, ((K.getD v 0).testBit (q.getD j 0) == (K.getD q.length 0).testBit j) = ((H.getD v 0).testBit (q.getD j 0) == (H.getD q.length 0).testBit j) := fun j hj => by
      have hj' := List.mem_range.1 hj
      have e : q.getD j 0 = q[j] := by simp [hj']
      have hmem : q[j] ∈ q := List.getElem_mem hj'
      rw [e, h.bit v q[j] hv (hq _ hmem) (fun e => hm (by rw [e]; exact hmem)), h.bit q.length j hl (by omega) (by omega), beq_not]
    constructor
    · intro h2 j hj; rw [← key j hj]; exact h2 j hj
    · intro h2 j hj; rw [key j hj]; exact h2 j hj
theorem cnt_co {H K : List Nat} (h : CoH H K) : ∀ (d : Nat) (q : List Nat), (∀ a ∈ q, a < H.length) → q.length + d ≤ H.length → cntN K K d q = cntN H H d q
  | 0, q, _, _ => rfl
  | d + 1, q, hq, hl => by
    rw [cntN, cntN, h.len, sumV, sumV]
    congr 1
    apply List.map_congr_left
    intro v hv
    have hv' := List.mem_range.1 hv
    rw [okB_co h hq (by omega) hv']
    by_cases hok : okB H H q v = true
    · rw [if_pos hok, if_pos hok]
      exact cnt_co h d _ (fun a ha => by
        rcases List.mem_append.1 ha with a1 | a1
        · exact hq a a1
        · simp at a1; omega) (by simp; omega)
    · rw [if_neg hok, if_neg hok]
/-- An automorphism, by its list. -/
theorem moves_aut {H : List Nat} (hs : SymH H) {u v : Nat} : movesB H u v = true ↔ ∃ f : Nat → Nat, AutF H (fun i j => (H.getD i 0).testBit j) H.length f ∧ ∃ q : List Nat, q ∈ allF H H H.length [] ∧ (∀ i, f i = q.getD i 0) ∧ f v = u := by
  have hH : ∀ i j, i < H.length → j < i → (H.getD i 0).testBit j = (fun i j => (H.getD i 0).testBit j) i j := fun _ _ _ _ => rfl
  have hHs : ∀ i j, i < H.length → j < H.length → (fun i j => (H.getD i 0).testBit j) i j = (fun i j => (H.getD i 0).testBit j) j i := fun i j hi hj => hs i j hi hj
  rw [movesB, List.any_eq_true]
  constructor
  · rintro ⟨q, hq, he⟩
    rw [beq_iff_eq] at he
    exact ⟨fun i => q.getD i 0, (aut_full hs hH hHs).1 (all0.1 hq).2, q, hq, fun _ => rfl, he⟩
  · rintro ⟨f, -, q, hq, hf, he⟩
    exact ⟨q, hq, by rw [beq_iff_eq, ← hf]; exact he⟩
theorem moves_of {H : List Nat} (hs : SymH H) {f : Nat → Nat} (hf : AutF H (fun i j => (H.getD i 0).testBit j) H.length f) {v : Nat} (hv : v < H.length) : movesB H (f v) v = true := by
  have hH : ∀ i j, i < H.length → j < i → (H.getD i 0).testBit j = (fun i j => (H.getD i 0).testBit j) i j := fun _ _ _ _ => rfl
  have hHs : ∀ i j, i < H.length → j < H.length → (fun i j => (H.getD i 0).testBit j) i j = (fun i j => (H.getD i 0).testBit j) j i := fun i j hi hj => hs i j hi hj
  rw [movesB, List.any_eq_true]
  refine ⟨(List.range H.length).map f, all0.2 ⟨by simp, (aut_full hs hH hHs).2 ⟨fun i hi => ?_, fun i j hi hj hne => ?_⟩⟩, ?_⟩
  · simp only [getD_mapR _ hi]; exact hf.1 i hi
  · simp only [getD_mapR _ hi, getD_mapR _ hj]; exact hf.2 i j hi hj hne
  · rw [getD_mapR _ hv, beq_iff_eq]
theorem moves_trans {H : List Nat} (hs : SymH H) {x u v : Nat} (hv : v < H.length) (h1 : movesB H x u = true) (h2 : movesB H u v = true) : movesB H x v = true := by
  obtain ⟨f, hf, -, -, -, hfu⟩ := (moves_aut hs).1 h1
  obtain ⟨k, hk, -, -, -, hkv⟩ := (moves_aut hs).1 h2
  have := moves_of hs (f := fun i => f (k i)) ⟨fun i hi => hf.1 _ (hk.1 i hi), fun i j hi hj hne => by
    have h3 := hk.2 i j hi hj hne
    have h4 := hf.2 (k i) (k j) (hk.1 i hi) (hk.1 j hj) h3.1
    exact ⟨h4.1, h4.2.trans h3.2⟩⟩ hv
  simp only [hkv, hfu] at this
  exact this
theorem orb_lt {H : List Nat} {v : Nat} (hv : v < H.length) : orbV H v < H.length := Nat.lt_of_le_of_lt orb_self hv
theorem orb_idem {H : List Nat} (hs : SymH H) {v : Nat} (hv : v < H.length) : orbV H (orbV H v) = orbV H v :=
  Nat.le_antisymm orb_self (orb_le (moves_trans hs hv (orb_moves hs (orb_lt hv)) (orb_moves hs hv)))
theorem nodup_len {α : Type} [DecidableEq α] : ∀ {l E : List α}, l.Nodup → (∀ x ∈ l, x ∈ E) → l.length ≤ E.length
  | [], _, _, _ => Nat.zero_le _
  | x :: l, E, hn, hs => by
    obtain ⟨h1, h2⟩ := List.nodup_cons.1 hn
    have hx := hs x (by simp)
    have := nodup_len (l := l) (E := E.erase x) h2 (fun y hy => by
      rw [List.mem_erase_of_ne (fun e => h1 (by rw [← e]; exact hy))]
      exact hs y (by simp [hy]))
    rw [List.length_erase_of_mem hx] at this
    have := List.length_pos_of_mem hx
    simp; omega
theorem filter_two {α : Type} (p : α → Bool) : ∀ l : List α, (l.filter p).length + (l.filter fun x => !p x).length = l.length
  | [] => rfl
  | x :: l => by
    have := filter_two p l
    cases h : p x <;> simp [h] <;> omega
/-- How many bits below n. -/
def degN (H : List Nat) (v : Nat) : Nat := ((List.range H.length).filter (H.getD v 0).testBit).length
theorem moves_deg {H : List Nat} (hs : SymH H) (hir : ∀ x, x < H.length → (H.getD x 0).testBit x = false) {u v : Nat} (hv : v < H.length) (h : movesB H u v = true) : degN H u = degN H v := by
  obtain ⟨f, hf, -, -, -, hfv⟩ := (moves_aut hs).1 h
  have hu : u < H.length := by rw [← hfv]; exact hf.1 v hv
  have inj : ∀ i j, i < H.length → j < H.length → f i = f j → i = j := fun i j hi hj e => Classical.byContradiction fun hne => (hf.2 i j hi hj hne).1 e
  have bits : ∀ y, y < H.length → (H.getD u 0).testBit (f y) = (H.getD v 0).testBit y := fun y hy => by
    by_cases e : y = v
    · subst e; rw [hfv, hir u hu, hir y hy]
    · have := (hf.2 v y hv hy (fun h => e h.symm)).2
      rw [hfv] at this; exact this
  have le : ∀ p r : Nat → Bool, (∀ y, y < H.length → p y = r (f y)) → ((List.range H.length).filter p).length ≤ ((List.range H.length).filter r).length := fun p r hpr => by
    rw [← List.length_map (f := f)]
    refine nodup_len ?_ (fun x hx => ?_)
    · rw [List.Nodup, List.pairwise_map]
      refine List.Pairwise.imp_of_mem (fun {a b} ha hb hab e => ?_) ((List.pairwise_lt_range (n := H.length)).filter p)
      have h1 := List.mem_range.1 (List.mem_filter.1 ha).1
      have h2 := List.mem_range.1 (List.mem_filter.1 hb).1
      have := inj a b h1 h2 e
      omega
    · obtain ⟨y, hy, rfl⟩ := List.mem_map.1 hx
      obtain ⟨h1, h2⟩ := List.mem_filter.1 hy
      have h3 := List.mem_range.1 h1
      exact List.mem_filter.2 ⟨List.mem_range.2 (hf.1 y h3), by rw [← hpr y h3]; exact h2⟩
  have l1 := le (H.getD v 0).testBit (H.getD u 0).testBit (fun y hy => (bits y hy).symm)
  have l2 := le (fun y => !(H.getD v 0).testBit y) (fun y => !(H.getD u 0).testBit y) (fun y hy => by rw [bits y hy])
  have s1 := filter_two (H.getD v 0).testBit (List.range H.length)
  have s2 := filter_two (H.getD u 0).testBit (List.range H.length)
  unfold degN
  omega
theorem row_bits {g : List (List Int)} (hg : GOk g) {v : Nat} (hv : v < g.length) : g[v].length = degN (netsL g) v := by
  have hb := fun j => nets_bit2 hg hv j
  have hn := netsL_len g
  have hgd : g.getD v [] = g[v] := by simp [hv]
  rw [hgd] at hb
  have hnd : g[v].Nodup := by
    rw [List.Nodup, List.pairwise_iff_getElem]
    intro i j hi hj hij e
    have := (hg.rise v hv j hj hj).2.2 i hij
    omega
  unfold degN
  rw [hn]
  have el : ((List.range g.length).filter ((netsL g).getD v 0).testBit).length = (((List.range g.length).filter ((netsL g).getD v 0).testBit).map fun i : Nat => (i : Int)).length := (List.length_map _).symm
  rw [el]
  apply Nat.le_antisymm
  · refine nodup_len hnd (fun x hx => ?_)
    have hr := hg.ge hv x hx
    refine List.mem_map.2 ⟨x.toNat, List.mem_filter.2 ⟨List.mem_range.2 (by omega), ?_⟩, by omega⟩
    rw [hb, decide_eq_true_eq, Int.toNat_of_nonneg hr.1]; exact hx
  · refine nodup_len ?_ (fun x hx => ?_)
    · rw [List.Nodup, List.pairwise_map]
      exact ((List.pairwise_lt_range (n := g.length)).filter _).imp fun h => by omega
    · obtain ⟨y, hy, rfl⟩ := List.mem_map.1 hx
      have := (List.mem_filter.1 hy).2
      rw [hb, decide_eq_true_eq] at this; exact this
/-- Degrees are the same within an orbit. -/
theorem orb_deg {g : List (List Int)} (hg : GOk g) {v : Nat} (hv : v < g.length) (hu : orbV (netsL g) v < g.length) : g[v].length = g[orbV (netsL g) v].length := by
  have hs := sym_nets hg
  have hn := netsL_len g
  rw [row_bits hg hv, row_bits hg hu]
  refine (moves_deg hs (fun x hx => ?_) (by omega) (orb_moves hs (by omega))).symm
  rw [nets_bit2 hg (by omega)]
  have := hg.irrefl x (by omega)
  have e : g.getD x [] = g[x]'(by omega) := by simp [show x < g.length by omega]
  rw [e, decide_eq_false this]
/-- The pairs that are no edges, so far. -/
def PC (E : Nat → Nat → Bool) (n : Nat) (L : List NP) (v u : Nat) : Prop := ∀ s : NP, s ∈ L ↔ (s.1 < s.2 ∧ s.2 < n ∧ E s.1 s.2 = false ∧ (s.2 < v ∨ s.2 = v ∧ s.1 < u))
theorem PC.start (E : Nat → Nat → Bool) (n : Nat) : PC E n [] 0 0 := fun s => ⟨fun h => (by cases h), fun h => by omega⟩
theorem PC.row {E : Nat → Nat → Bool} {n v : Nat} {L : List NP} (h : PC E n L v v) : PC E n L (v + 1) 0 := fun s => by
  rw [h s]
  constructor
  · rintro ⟨a, b, c, e⟩; exact ⟨a, b, c, by omega⟩
  · rintro ⟨a, b, c, e⟩; exact ⟨a, b, c, by omega⟩
theorem PC.skip {E : Nat → Nat → Bool} {n v u : Nat} {L : List NP} (h : PC E n L v u) (hE : E u v = true) : PC E n L v (u + 1) := fun s => by
  rw [h s]
  constructor
  · rintro ⟨a, b, c, e⟩; exact ⟨a, b, c, by omega⟩
  · rintro ⟨a, b, c, e⟩
    refine ⟨a, b, c, ?_⟩
    by_cases k : s.1 = u ∧ s.2 = v
    · rw [k.1, k.2, hE] at c; cases c
    · omega
theorem PC.add {E : Nat → Nat → Bool} {n v u : Nat} {L : List NP} (h : PC E n L v u) (hE : E u v = false) (huv : u < v) (hv : v < n) : PC E n (L ++ [(u, v)]) v (u + 1) := fun s => by
  rw [List.mem_append, List.mem_singleton, h s]
  constructor
  · rintro (⟨a, b, c, e⟩ | rfl)
    · exact ⟨a, b, c, by omega⟩
    · exact ⟨huv, hv, hE, .inr ⟨rfl, Nat.lt_succ_self _⟩⟩
  · rintro ⟨a, b, c, e⟩
    by_cases k : s.1 = u ∧ s.2 = v
    · exact .inr (Prod.ext k.1 k.2)
    · exact .inl ⟨a, b, c, by omega⟩
theorem PC.all {E : Nat → Nat → Bool} {n v u : Nat} {L : List NP} (h : PC E n L v u) : ∀ s ∈ L, s.1 < s.2 ∧ s.2 < n := fun s hs => by
  have := (h s).1 hs; exact ⟨this.1, this.2.1⟩
def edgeB (g : List (List Int)) (u v : Nat) : Bool := decide ((v : Int) ∈ g.getD u [])
theorem nets_masks {M : List Nat} (h : ∀ m ∈ M, m < 4294967296) : netsL (M.map bitsI) = M := by
  unfold netsL
  rw [List.map_map]
  conv => rhs; rw [← List.map_id M]
  apply List.map_congr_left
  intro m hm
  show maskL (bitsI m) = m
  apply nat_ext
  intro i
  rw [testBit_maskL (fun v hv => by
    unfold bitsI at hv
    obtain ⟨j, -, rfl⟩ := List.mem_map.1 hv; omega), Bool.eq_iff_iff, decide_eq_true_eq]
  unfold bitsI
  simp only [List.mem_map, mem_bitsN (h m hm)]
  constructor
  · rintro ⟨j, hj, e⟩
    have : j = i := by omega
    subst this; exact hj
  · intro hi; exact ⟨i, hi, rfl⟩
theorem co_masks {g : List (List Int)} {L : List NP} {M : List Nat} (hg : GOk g) (h : EdL L g.length M) (hP : PC (edgeB g) g.length L g.length 0) : CoH (netsL g) M := by
  have hn := netsL_len g
  refine ⟨by rw [hn, h.1], fun x y hx hy hxy => ?_⟩
  rw [hn] at hx hy
  rw [nets_bit2 hg hx, Bool.eq_iff_iff, h.2 x hx y, hP, hP]
  have hsy : edgeB g y x = edgeB g x y := by unfold edgeB; rw [decide_eq_decide]; exact edge_symm hg hy hx
  simp only [hsy]
  show _ ↔ (!edgeB g x y) = true
  rw [Bool.not_eq_true']
  constructor
  · rintro (⟨-, -, c, -⟩ | ⟨-, -, c, -⟩) <;> exact c
  · intro c
    rcases Nat.lt_or_gt_of_ne hxy with k | k
    · exact .inl ⟨k, hy, c, .inl hy⟩
    · exact .inr ⟨k, hx, c, .inl hx⟩
/-- The complement has as many symmetries. -/
theorem sym_co {g : List (List Int)} {L : List NP} {M : List Nat} (hg : GOk g) (h : EdL L g.length M) (hP : PC (edgeB g) g.length L g.length 0) : cntN (netsL (M.map bitsI)) (netsL (M.map bitsI)) (M.map bitsI).length [] = cntN (netsL g) (netsL g) g.length [] := by
  have h32 : ∀ m ∈ M, m < 4294967296 := fun m hm => by
    have h1 := h.lt hP.all m hm
    have h2 := pow_le16 hg.hi
    omega
  rw [nets_masks h32, List.length_map, h.1]
  exact cnt_co (co_masks hg h hP) g.length [] (fun a ha => by cases ha) (by rw [netsL_len]; simp)
set_option maxRecDepth 100000 in
set_option maxHeartbeats 8000000 in
theorem l2Other_any {S : Nat → Prop} {gv : Value} {g : List (List Int)} {w : World} (hg : GOk g) (hvg : SlR S w gv g) :
    Calls Try.prog 62 #[.agg #[gv]] w fun e w' => ∃ u L M, e = .returned (.agg #[u]) ∧ OwnR w' w.heap.size w'.heap.size 25 2 u (M.map bitsI) ∧ EdL L g.length M ∧ PC (edgeB g) g.length L g.length 0 ∧ Below w.heap.size w w' := by
  have h16 := hg.hi
  obtain ⟨ga, gc, rfl⟩ := hvg.slice
  have hgb := fun (W : World) (hb : Below w.heap.size w W) => hvg.below hb (Nat.le_refl _)
  have hsz := fun (W : World) (hb : Below w.heap.size w W) => l1Size_any (w := W) (hgb W hb)
  have hed := fun (W : World) (hb : Below w.heap.size w W) (x y : Nat) (hx : x < g.length) => l1Edge_any (w := W) (u := x) (x := (y : Int)) (hgb W hb) hx
  have hq0 : Below w.heap.size w ((w.alloc (.cells #[.slice ga g.length gc] 31)).alloc (.cells #[.slice none 0 0] 31)) := ((Below.refl _ _).alloc (Nat.le_refl _) _).alloc (by simp) _
  have hr0 := own_new (w.alloc (.cells #[.slice ga g.length gc] 31)) (w.heap.size + 1) 31 (.slice none 0 0) (by simp)
  rw [show (w.alloc (.cells #[.slice ga g.length gc] 31)).heap.size = w.heap.size + 1 by simp] at hr0
  go_enter Try.func62, Try.ntmps62
  go_wp2_with fail
  refine (hsz _ hq0).mono ?_
  rintro e w1 ⟨rfl, hb1⟩
  have hq1 := hq0.trans (hb1.mono hq0.size)
  have c1 : w1.cell? ⟨w.heap.size, 0, none⟩ = some (.slice ga g.length gc) := (hb1.cell (p := ⟨w.heap.size, 0, none⟩) (by simp <;> omega)).trans (by simp [go_sem])
  have hr1 := hr0.below hb1 (Nat.le_refl _)
  have hem := l1Empty_any (n := g.length) (w := w1) h16
  go_wp2_with fail
  refine hem.mono ?_
  rintro e w2 ⟨u, rfl, hu, hb2⟩
  have hq2 := hq1.trans (hb2.mono hq1.size)
  have c2 := (hb2.cell (cell_lt c1)).trans c1
  have hr2 := hr1.below hb2 (Nat.le_refl _)
  have hq1s := hq1.size
  have hr1s : w.heap.size + 1 < w1.heap.size := (hr1.lt _ rfl).2
  rw [repl_bits] at hu
  have hu := hu.weaken (B1 := w.heap.size + 1) (C1 := w2.heap.size) (by omega) (Nat.le_refl _)
  obtain ⟨ua, uc, hue⟩ := hu.isSlice
  rw [List.length_map, List.length_replicate] at hue
  subst hue
  have hw2s : w.heap.size + 1 < w2.heap.size := (hr2.lt _ rfl).2
  have hb3 : Below w2.heap.size w2 (w2.alloc (.cells #[.slice ua g.length uc] 31)) := (Below.refl _ _).alloc (Nat.le_refl _) _
  have hq3 := hq2.trans (hb3.mono hq2.size)
  have c3 := (hb3.cell (cell_lt c2)).trans c2
  have hr3 := hr2.below hb3 (Nat.le_refl _)
  have hu3 := (hu.below hb3 (Nat.le_refl _)).weaken (Nat.le_refl _) hb3.size
  have ho3 := own_new w2 w.heap.size 31 (.slice ua g.length uc) (by omega)
  have hE := Lib.hid (EdL.start g.length)
  have hP := Lib.hid (PC.start (edgeB g) g.length)
  generalize List.replicate g.length 0 = M0 at *
  clear hem hu hr0 hr1 hr2 hq0 hq1 hq2 hb1 hb2 hb3 c1 c2
  go_wp2
  go_loopw [4] (fun vv wr => ∃ (x : Nat) (u : Value) (M : List Nat) (L : List NP), x ≤ g.length ∧ vv = .int .i64 x ∧ OwnR wr (w.heap.size + 1) wr.heap.size 25 2 u (M.map bitsI) ∧ RowKit.Hid (EdL L g.length M) ∧ RowKit.Hid (PC (edgeB g) g.length L x 0) ∧ Own wr w.heap.size 31 1 (.slice (some ⟨w2.heap.size, 0, none⟩) 1 1) 1 [u] ∧ Own wr (w.heap.size + 1) 31 1 (.slice (some ⟨w.heap.size + 1, 0, none⟩) 1 1) 1 [.slice none 0 0] ∧ Below w.heap.size w wr ∧ wr.cell? ⟨w.heap.size, 0, none⟩ = some (.slice ga g.length gc)) (fun vv _ => g.length - (intOf vv).toNat)
  case atStart => exact ⟨0, _, M0, [], Nat.zero_le _, rfl, hu3, hE, hP, ho3, hr3, hq3, c3⟩
  case round =>
    clear hu3 hE hP ho3 hr3 hq3 c3
    obtain ⟨x, u, M, L, hx, rfl, hR, hE, hP, hou, hr, hq, c3⟩ := hrel
    obtain ⟨wi, rfl⟩ : ∃ wx : World, wx = wr := ⟨_, rfl⟩
    go_wp2_with fail
    refine (hsz _ hq).mono ?_
    rintro e wa ⟨rfl, hba⟩
    have hRa := (hR.below hba (Nat.le_refl _)).weaken (Nat.le_refl _) hba.size
    have houa := hou.below hba (Nat.le_refl _)
    have hra := hr.below hba (Nat.le_refl _)
    have hqa := hq.trans (hba.mono hq.size)
    have ca := (hba.cell (cell_lt c3)).trans c3
    clear hR hou hr hq c3 hba
    by_cases hlt : x < g.length
    case neg =>
      have hxe : x = g.length := by omega
      have HP2 := Lib.hid (show PC (edgeB g) g.length L g.length 0 by have := hP.out; rw [hxe] at this; exact this)
      have HE2 := Lib.hid hE.out
      clear hxe
      obtain ⟨ua, uc, hue⟩ := hRa.isSlice
      rw [List.length_map, hE.out.1] at hue
      subst hue
      obtain ⟨o1, o2, -, -⟩ := own_cell houa
      obtain ⟨r1, r2, -, -⟩ := own_cell hra
      go_wp2
      refine bodyPost_ret (v := .agg #[.slice ua g.length uc]) (by simp [results, Try.results62, go_sem, r1]) rfl ⟨_, L, M, rfl, (hRa.setOther hra (by decide) (by decide) _).weaken (by omega) (by simp), HE2.out, HP2.out, hqa.setCell (by simp) _⟩
    go_wp2
    go_loopw [5] (fun uv wr => ∃ (y : Nat) (u : Value) (M : List Nat) (L : List NP), y ≤ x ∧ uv = .int .i64 y ∧ OwnR wr (w.heap.size + 1) wr.heap.size 25 2 u (M.map bitsI) ∧ RowKit.Hid (EdL L g.length M) ∧ RowKit.Hid (PC (edgeB g) g.length L x y) ∧ Own wr w.heap.size 31 1 (.slice (some ⟨w2.heap.size, 0, none⟩) 1 1) 1 [u] ∧ Own wr (w.heap.size + 1) 31 1 (.slice (some ⟨w.heap.size + 1, 0, none⟩) 1 1) 1 [.slice none 0 0] ∧ Below w.heap.size w wr ∧ wr.cell? ⟨w.heap.size, 0, none⟩ = some (.slice ga g.length gc)) (fun uv _ => x - (intOf uv).toNat)
    case atStart => exact ⟨0, u, M, L, Nat.zero_le _, rfl, hRa, hE, hP, houa, hra, hqa, ca⟩
    case round =>
      clear hRa hE hP houa hra hqa ca
      obtain ⟨y, u, M, L, hy, rfl, hR, hE, hP, hou, hr, hq, c3⟩ := hrel
      obtain ⟨wj, rfl⟩ : ∃ wx : World, wx = wr := ⟨_, rfl⟩
      by_cases hyx : y < x
      case neg =>
        have hye : y = x := by omega
        have HP2 := Lib.hid (show PC (edgeB g) g.length L (x + 1) 0 from (by rw [hye] at hP; exact hP.out.row))
        clear hye
        go_wp2
        go_roundw
        case rel => exact ⟨x + 1, u, M, L, by omega, by go_num, hR, hE, HP2, hou, hr, hq, c3⟩
        case measure => simp [intOf]; omega
      have hee := hed _ hq y x (by omega)
      have hEB := Lib.hid (show decide ((x : Int) ∈ g.getD y []) = edgeB g y x from rfl)
      rw [hEB.out] at hee
      go_wp2_with fail
      refine hee.mono ?_
      rintro e wb ⟨rfl, hbb⟩
      have hRb := (hR.below hbb (Nat.le_refl _)).weaken (Nat.le_refl _) hbb.size
      have houb := hou.below hbb (Nat.le_refl _)
      have hrb := hr.below hbb (Nat.le_refl _)
      have hqb := hq.trans (hbb.mono hq.size)
      have cb := (hbb.cell (cell_lt c3)).trans c3
      clear hR hou hr hq c3 hbb hee
      cases hbv : edgeB g y x with
      | true =>
        have HP2 := Lib.hid (hP.out.skip hbv)
        clear hbv
        go_wp2
        go_roundw
        case rel => exact ⟨y + 1, u, M, L, by omega, by go_num, hRb, hE, HP2, houb, hrb, hqb, cb⟩
        case measure => simp [intOf]; omega
      | false =>
        have HP2 := Lib.hid (hP.out.add hbv hyx hlt)
        have hall := hP.out.all
        have hpre := hE.out.pre hyx hlt (fun s hs => (hall s hs).1) (fun hm => by have := (hP.out _).1 hm; simp at this)
        have hM16 := hE.out.m16 h16 hall
        have hML := hE.out.1
        have hqs := hqb.size
        have hlw : w.heap.size < wb.heap.size := cell_lt cb
        have hlk := l1Link_any (k := y) (i := x) hRb (Nat.le_refl _) (by omega) (by omega) (by omega) (by omega) hM16 (by omega) hpre.1 hpre.2
        have hEN := Lib.hid (hE.out.next hyx hlt)
        have hnob := hRb.other houb (by decide)
        have hnrb := hRb.other hrb (by decide)
        have hlo := (houb.lt _ rfl).2
        have hlr := (hrb.lt _ rfl).2
        obtain ⟨ua, uc, hue⟩ := hRb.isSlice
        rw [List.length_map, hML] at hue
        subst hue
        obtain ⟨o1, o2, -, -⟩ := own_cell houb
        clear hall hpre hM16 hML hE hbv
        go_wp2_with fail
        refine hlk.mono ?_
        rintro e wm ⟨rfl, hRm, hbm, hfr⟩
        have houm := own1_keep houb (hfr _ hlo hnob)
        have hrm := own1_keep hrb (hfr _ hlr hnrb)
        have hqm := hqb.trans (hbm.mono (by omega))
        have dm := (hbm.cell (p := ⟨w.heap.size, 0, none⟩) (by show w.heap.size < _; omega)).trans cb
        obtain ⟨x1, x2, -, -⟩ := own_cell houm
        clear hlk hRb houb hrb o1 o2
        go_wp2
        go_roundw
        case rel => exact ⟨y + 1, _, _, _, by omega, by go_num, (hRm.setOther houm (by decide) (by decide) _).weaken (Nat.le_refl _) (by simp), hEN, HP2, own_set houm _, own1_keep hrm (Below.heap_setCell _ _ _ _ (by (simp; omega))), hqm.setCell (by simp; omega) _, (World.cell?_of_block (a := ⟨w.heap.size, 0, none⟩) (Below.heap_setCell _ _ _ _ (by simp; omega))).trans dm⟩
        case measure => simp [intOf]; omega
set_option maxHeartbeats 4000000 in
theorem complement_any {S : Nat → Prop} {gv : Value} {g : List (List Int)} {w : World} (hg : GOk g) (hvg : SlR S w gv g) :
    Calls Try.prog 27 #[.agg #[gv]] w fun e w' => ∃ u L M, e = .returned (.tuple #[.agg #[u], .bool true]) ∧ OwnR w' w.heap.size w'.heap.size 25 2 u (M.map bitsI) ∧ EdL L g.length M ∧ PC (edgeB g) g.length L g.length 0 ∧ Below w.heap.size w w' := by
  obtain ⟨ga, gc, rfl⟩ := hvg.slice
  have hq0 : Below w.heap.size w ((w.alloc (.cells #[.slice ga g.length gc] 31)).alloc (.cells #[.slice none 0 0] 31)) := ((Below.refl _ _).alloc (Nat.le_refl _) _).alloc (by simp) _
  have hr0 := own_new (w.alloc (.cells #[.slice ga g.length gc] 31)) (w.heap.size + 1) 31 (.slice none 0 0) (by simp)
  rw [show (w.alloc (.cells #[.slice ga g.length gc] 31)).heap.size = w.heap.size + 1 by simp] at hr0
  have hgo := specGraphOk_any _ _ _ (hvg.below hq0 (Nat.le_refl _))
  rw [gokB_true hg] at hgo
  go_enter Try.func27, Try.ntmps27
  go_wp2_with fail
  refine hgo.mono ?_
  rintro e w1 ⟨rfl, hb1⟩
  have hq1 := hq0.trans (hb1.mono hq0.size)
  have c1 : w1.cell? ⟨w.heap.size, 0, none⟩ = some (.slice ga g.length gc) := (hb1.cell (p := ⟨w.heap.size, 0, none⟩) (by simp <;> omega)).trans (by simp [go_sem])
  have hr1 := hr0.below hb1 (Nat.le_refl _)
  have hot := l2Other_any hg (hvg.below hq1 (Nat.le_refl _))
  have hq1s := hq1.size
  clear hgo
  go_wp2_with fail
  refine hot.mono ?_
  rintro e w2 ⟨u, L, M, rfl, hR, hE, hP, hb2⟩
  have hq2 := hq1.trans (hb2.mono hq1.size)
  have hr2 := hr1.below hb2 (Nat.le_refl _)
  have HE := Lib.hid hE
  have HP := Lib.hid hP
  obtain ⟨ua, uc, hue⟩ := hR.isSlice
  rw [List.length_map, hE.1] at hue
  subst hue
  obtain ⟨r1, r2, -, -⟩ := own_cell hr2
  clear hot hE hP
  go_wp2
  refine bodyPost_ret (v := .tuple #[.agg #[.slice ua g.length uc], .bool true]) (by simp [results, Try.results27, go_sem, r1]) rfl ⟨_, L, M, rfl, ((hR.weaken (B1 := w.heap.size) hq1s (Nat.le_refl _)).setOther hr2 (by decide) (by decide) _).weaken (Nat.le_refl _) (by simp), HE.out, HP.out, hq2.setCell (by simp) _⟩
set_option maxHeartbeats 2000000 in
theorem likeInts_any {S S' : Nat → Prop} {v u : Value} {xs ys : List Int} {w : World} (hv : SlI S w .i64 v xs) (hu : SlI S' w .i64 u ys) :
    Calls Try.prog 18 #[v, u] w fun e w' => e = .returned (.bool (decide (xs = ys))) ∧ Drawn w w' := by
  obtain ⟨a, b, off, cap, rfl, hl, ha, hc0⟩ := hv
  obtain ⟨a', b', off', cap', rfl, hl', ha', hc0'⟩ := hu
  by_cases hne : xs.length = ys.length
  case neg =>
    have hn0 : ((xs.length : Int) != (ys.length : Int)) = true := by rw [bne_iff_ne]; omega
    have HE := Lib.hid (show decide (xs = ys) = false from decide_eq_false fun e => hne (by rw [e]))
    go_enter Try.func18, Try.ntmps18
    go_wp2
    go_ret
    exact ⟨ret_bool HE.out.symm, Drawn.refl _⟩
  have hn0 : ((xs.length : Int) != (ys.length : Int)) = false := by rw [bne_eq_false_iff_eq]; omega
  have HN := Lib.hid hne
  clear hne
  go_enter Try.func18, Try.ntmps18
  go_wp2
  go_loopw [5] (fun iv wr => ∃ k : Nat, k ≤ xs.length ∧ iv = .int .i64 k ∧ RowKit.Hid (xs.take k = ys.take k) ∧ Drawn w wr) (fun iv _ => xs.length - (intOf iv).toNat)
  case atStart => exact ⟨0, Nat.zero_le _, rfl, Lib.hid rfl, Drawn.refl _⟩
  case round =>
    obtain ⟨k, hk, rfl, HT, hq⟩ := hrel
    by_cases hlt : k < xs.length
    case neg =>
      have HE := Lib.hid (show decide (xs = ys) = true from decide_eq_true (by
        have h := HT.out
        rw [List.take_of_length_le (by omega), List.take_of_length_le (by have := HN.out; omega)] at h
        exact h))
      go_wp2
      go_ret
      exact ⟨ret_bool HE.out.symm, hq⟩
    have hlt2 : k < ys.length := by rw [← HN.out]; exact hlt
    have hlt3 : (k : Int) < ys.length := by omega
    have c1 := hc0.drawn hq k hlt
    have c2 := hc0'.drawn hq k hlt2
    obtain ⟨rfl, -⟩ := ha (by omega)
    obtain ⟨rfl, -⟩ := ha' (by omega)
    by_cases he : xs[k] = ys[k]
    · have hb : (xs[k] != ys[k]) = false := by rw [bne_eq_false_iff_eq]; exact he
      have HT2 := Lib.hid (show xs.take (k + 1) = ys.take (k + 1) by rw [List.take_succ_eq_append_getElem hlt, List.take_succ_eq_append_getElem hlt2, HT.out, he])
      clear he
      go_wp2
      go_quiet (fail)
      go_wp2
      go_roundw
      case rel => exact ⟨k + 1, by omega, by go_num, HT2, hq.drewN _⟩
      case measure => simp [intOf]; omega
    · have hb : (xs[k] != ys[k]) = true := by rw [bne_iff_ne]; exact he
      have HE := Lib.hid (show decide (xs = ys) = false from decide_eq_false fun e => he (by subst e; rfl))
      clear he
      go_wp2
      go_quiet (fail)
      go_wp2
      go_ret
      exact ⟨ret_bool HE.out.symm, hq.drewN _⟩
end Go.Proofs.Ytplohdnakllbiaa
