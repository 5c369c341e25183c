/- The law of embeddings. -/
import Derived.Test.YtplohdnakllbiaaDraw9
import Derived.Test.YtplohdnakllbiaaOrb4
import Derived.Test.YtplohdnakllbiaaFit7
import Derived.Test.YtplohdnakllbiaaSymM
import Derived.Test.YtplohdnakllbiaaThere
import Derived.Test.YtplohdnakllbiaaBig
namespace Go.Proofs.Ytplohdnakllbiaa
open Go.RowKit
/-- What the search finds fits. -/
theorem srch_ok (H Q : List Nat) : ∀ (d : Nat) (q : List Nat) (s : Option (List Nat)) (r : List Nat), (srchF H Q fitEf d q s).2 = true → (srchF H Q fitEf d q s).1 = some r →
    ∃ t, r = q ++ t ∧ t.length = d ∧ ∀ i (h : i < t.length), okB H Q (q ++ t.take i) t[i] = true ∧ t[i] < H.length
  | 0, q, s, r, _, h2 => by
    simp only [srchF, fitEf, Option.some.injEq] at h2
    exact ⟨[], by simp [h2], rfl, fun i h => by simp at h⟩
  | d + 1, q, s, r, h1, h2 => by
    rw [srchF] at h1 h2
    have : ∀ (l : List Nat) (s : Option (List Nat)), (∀ v ∈ l, v < H.length) → (loopS (fun v s => if okB H Q q v = true then srchF H Q fitEf d (q ++ [v]) s else (s, false)) l s).2 = true → (loopS (fun v s => if okB H Q q v = true then srchF H Q fitEf d (q ++ [v]) s else (s, false)) l s).1 = some r →
        ∃ t, r = q ++ t ∧ t.length = d + 1 ∧ ∀ i (h : i < t.length), okB H Q (q ++ t.take i) t[i] = true ∧ t[i] < H.length := by
      intro l
      induction l with
      | nil => intro s _ h; simp [loopS] at h
      | cons v l ih =>
        intro s hl h1 h2
        rw [loopS] at h1 h2
        by_cases hok : okB H Q q v = true
        · simp only [hok, if_true] at h1 h2
          by_cases hs : (srchF H Q fitEf d (q ++ [v]) s).2 = true
          · rw [if_pos hs] at h2
            obtain ⟨t, rfl, hl2, ht⟩ := srch_ok H Q d (q ++ [v]) s r hs h2
            refine ⟨v :: t, by simp, by simp [hl2], fun i hi => ?_⟩
            cases i with
            | zero => exact ⟨by simpa using hok, hl v (by simp)⟩
            | succ i =>
              have := ht i (by simpa using hi)
              simpa using this
          · rw [if_neg hs] at h1 h2
            exact ih _ (fun u hu => hl u (by simp [hu])) h1 h2
        · simp only [hok, if_false, Bool.false_eq_true] at h1 h2
          exact ih _ (fun u hu => hl u (by simp [hu])) h1 h2
    exact this _ _ (fun v hv => List.mem_range.1 hv) h1 h2
/-- An embedding keeps edges and what is no edge. -/
structure EmbP (p g : List (List Int)) (r : List Nat) : Prop where
  len : r.length = p.length
  lt : ∀ i, i < r.length → r.getD i 0 < g.length
  pair : ∀ i k, i < r.length → k < r.length → decide ((k : Int) ∈ p.getD i []) = decide (((r.getD k 0 : Nat) : Int) ∈ g.getD (r.getD i 0) [])
theorem fitO_ok {H Q r : List Nat} (h : fitO H Q = some r) : r.length = Q.length ∧ ∀ i (h : i < r.length), okB H Q (r.take i) r[i] = true ∧ r[i] < H.length := by
  unfold fitO at h
  rcases srch_fit H Q Q.length [] none with ⟨h1, h2⟩ | ⟨h1, r', h2, h3⟩
  · rw [h2] at h; cases h
  · obtain ⟨t, rfl, h4, h5⟩ := srch_ok H Q Q.length [] none r h1 h
    exact ⟨by simpa using h4, fun i hi => by simpa using h5 i (by simpa using hi)⟩
theorem embP_of {p g : List (List Int)} {r : List Nat} (h : embF p g = some r) : GOk p ∧ p.length ≤ 8 ∧ GOk g ∧ EmbP p g r := by
  unfold embF at h
  by_cases hc : (smallB p && gokB g) = true
  case neg => rw [if_neg hc] at h; cases h
  rw [if_pos hc] at h
  simp only [smallB, Bool.and_eq_true, decide_eq_true_eq] at hc
  have hp := gokB_iff.1 hc.1.1
  have hg := gokB_iff.1 hc.2
  obtain ⟨h1, h2⟩ := fitO_ok h
  rw [netsL_len] at h1
  have hlt : ∀ i, i < r.length → r.getD i 0 < g.length := fun i hi => by
    have := (h2 i hi).2
    rw [netsL_len] at this
    simpa [hi] using this
  have hlow : ∀ i k, i < r.length → k < i → decide ((k : Int) ∈ p.getD i []) = decide (((r.getD k 0 : Nat) : Int) ∈ g.getD (r.getD i 0) []) := fun i k hi hk => by
    have := (h2 i hi).1
    simp only [okB, fitTo, Bool.and_eq_true, List.all_eq_true, List.mem_range, beq_iff_eq] at this
    have hh := this.2 k (by rw [List.length_take]; omega)
    have e1 : (r.take i).length = i := by rw [List.length_take]; omega
    have e2 : (r.take i).getD k 0 = r.getD k 0 := by simp [hk]
    have e3 : r.getD i 0 = r[i] := by simp [hi]
    rw [e1, e2, nets_bit hp (by omega), nets_bit hg (by rw [← e3]; exact hlt i hi), ← e3] at hh
    exact hh.symm
  refine ⟨hp, hc.1.2, hg, h1, hlt, fun i k hi hk => ?_⟩
  rcases Nat.lt_trichotomy k i with c | c | c
  · exact hlow i k hi c
  · subst c
    have e1 : ((k : Int) ∈ p.getD k []) ↔ False := ⟨fun h => by
      have := hp.irrefl k (by omega)
      have e : p.getD k [] = p[k]'(by omega) := by simp [show k < p.length by omega]
      rw [e] at h; exact this h, False.elim⟩
    have e2 : ((r.getD k 0 : Nat) : Int) ∈ g.getD (r.getD k 0) [] ↔ False := ⟨fun h => by
      have hl := hlt k hi
      have := hg.irrefl _ hl
      have e : g.getD (r.getD k 0) [] = g[r.getD k 0] := by rw [List.getD_eq_getElem?_getD, List.getElem?_eq_getElem hl]; rfl
      rw [e] at h; exact this h, False.elim⟩
    rw [decide_eq_decide, e1, e2]
  · have := hlow k i hk c
    rw [decide_eq_decide] at this ⊢
    rw [edge_symm hp (by omega) (by omega), this, edge_symm hg (hlt k hk) (hlt i hi)]
theorem lkg_small {E : Nat → Nat → Bool} {n : Nat} {M : List Nat} (h : LkG E n n 0 M) (h16 : n ≤ 16) : SmallR (M.map bitsI) 1048576 :=
  ⟨by rw [List.length_map, h.1]; omega, fun i hi _ => by rw [List.getElem_map]; have := bitsI_len (M[i]'(by simpa using hi)); omega⟩
set_option maxRecDepth 100000 in
set_option maxHeartbeats 4000000 in
theorem induced_any {S S' : Nat → Prop} {gv lv : Value} {g : List (List Int)} {xs : List Int} {w : World} (hvg : SlR S w gv g) (hvl : SlI S' w .i64 lv xs) :
    Calls Try.prog 75 #[.agg #[gv], lv] w fun e w' => ∃ u b p, e = .returned (.tuple #[.agg #[u], .bool b]) ∧ SlR (fun b => w.heap.size ≤ b ∧ b < w'.heap.size) w' u p ∧ Below w.heap.size w w' := by
  obtain ⟨ga, gc, rfl⟩ := hvg.slice
  obtain ⟨la, lc, rfl⟩ := hvl.slice
  have hq0 : Below w.heap.size w ((w.alloc (.cells #[.slice ga g.length gc] 31)).alloc (.cells #[.slice none 0 0] 31)) := ((Below.refl _ _).alloc (Nat.le_refl _) _).alloc (by simp) _
  have hr0 := own_new (w.alloc (.cells #[.slice ga g.length gc] 31)) (w.heap.size + 1) 31 (.slice none 0 0) (by simp)
  rw [show (w.alloc (.cells #[.slice ga g.length gc] 31)).heap.size = w.heap.size + 1 by simp] at hr0
  have hgo := specSetOk_any _ _ _ _ _ (hvg.below hq0 (Nat.le_refl _)) (hvl.below hq0 (Nat.le_refl _))
  have hnil : ∀ W : World, SlR (fun b => w.heap.size ≤ b ∧ b < W.heap.size) W (.slice none 0 0) [] := fun W => ⟨none, 0, 0, 0, fun _ => .slice none 0 0, rfl, by simp, fun h => by simp at h, fun i hi => by simp at hi⟩
  have HSO := Lib.hid (fun h : setOkB g xs = true => (show GOk g ∧ Rise xs g.length from by simp only [setOkB, Bool.and_eq_true] at h; exact ⟨gokB_iff.1 h.1, riseB_iff.1 h.2⟩))
  by_cases hok : setOkB g xs = true
  case neg =>
    rw [Bool.not_eq_true] at hok
    rw [hok] at hgo
    clear hok
    go_enter Try.func75, Try.ntmps75
    go_wp2_with fail
    refine hgo.mono ?_
    rintro e w1 ⟨rfl, hb1⟩
    have hq1 := hq0.trans (hb1.mono hq0.size)
    have hr1 := hr0.below hb1 (Nat.le_refl _)
    obtain ⟨r1, r2, -, -⟩ := own_cell hr1
    clear hgo
    go_wp2
    refine bodyPost_ret (v := .tuple #[.agg #[.slice none 0 0], .bool false]) (by simp [results, Try.results75, go_sem, r1]) rfl ⟨_, _, [], rfl, hnil _, hq1.setCell (by simp) _⟩
  obtain ⟨hg, hri⟩ := HSO.out hok
  rw [hok] at hgo
  have h16 := hg.hi
  have hrl := rise_len hri (by omega)
  by_cases hx0 : xs.length = 0
  case pos =>
    have hx1 : ((xs.length : Int) == 0) = true := by rw [beq_iff_eq]; omega
    have hx2 : (xs.length == 0) = true := by rw [beq_iff_eq]; exact hx0
    clear hok HSO hx0 hrl hri
    go_enter Try.func75, Try.ntmps75
    go_wp2_with fail
    refine hgo.mono ?_
    rintro e w1 ⟨rfl, hb1⟩
    have hq1 := hq0.trans (hb1.mono hq0.size)
    have hr1 := hr0.below hb1 (Nat.le_refl _)
    obtain ⟨r1, r2, -, -⟩ := own_cell hr1
    clear hgo
    go_wp2
    refine bodyPost_ret (v := .tuple #[.agg #[.slice none 0 0], .bool false]) (by simp [results, Try.results75, go_sem, r1]) rfl ⟨_, _, [], rfl, hnil _, hq1.setCell (by simp) _⟩
  have hx1 : ((xs.length : Int) == 0) = false := by rw [beq_eq_false_iff_ne]; omega
  have hx2 : (xs.length == 0) = false := by rw [beq_eq_false_iff_ne]; exact hx0
  obtain ⟨ord, hord⟩ : ∃ ord : List Nat, xs = natsI ord := ⟨xs.map Int.toNat, by
    unfold natsI
    rw [List.map_map]
    apply List.ext_getElem (by simp)
    intro i h1 h2
    have := hri i h1 h1
    simp; omega⟩
  have hol : ∀ x ∈ ord, x < g.length := fun x hx => by
    obtain ⟨i, hi, rfl⟩ := List.getElem_of_mem hx
    have hi2 : i < xs.length := by rw [hord, natsI_len]; exact hi
    have := hri i hi2 hi2
    have e : xs[i] = (ord[i] : Int) := by simp [hord, natsI]
    rw [e] at this; omega
  have hxo : xs.length = ord.length := by rw [hord, natsI_len]
  have HXO := Lib.hid hxo
  have ho16 : ord.length ≤ 16 := by omega
  have HOL := Lib.hid hol
  have HORD := Lib.hid hord
  clear hok HSO hord hxo hol hri hx0
  go_enter Try.func75, Try.ntmps75
  go_wp2_with fail
  refine hgo.mono ?_
  rintro e w1 ⟨rfl, hb1⟩
  have hq1 := hq0.trans (hb1.mono hq0.size)
  have c1 : w1.cell? ⟨w.heap.size, 0, none⟩ = some (.slice ga g.length gc) := (hb1.cell (p := ⟨w.heap.size, 0, none⟩) (by simp <;> omega)).trans (by simp [go_sem])
  have hr1 := hr0.below hb1 (Nat.le_refl _)
  have hlo := (hvl.below hq1 (Nat.le_refl _))
  rw [HORD.out] at hlo
  rw [show (natsI ord).length = xs.length by rw [← HORD.out]] at hlo
  have hl2 := l2Of_any (hvg.below hq1 (Nat.le_refl _)) hlo HOL.out ho16
  have hq1s := hq1.size
  clear hgo hlo
  go_wp2_with fail
  refine hl2.mono ?_
  rintro e w2 ⟨u, M, rfl, hR, hL, hb2⟩
  have hq2 := hq1.trans (hb2.mono hq1.size)
  have hr2 := hr1.below hb2 (Nat.le_refl _)
  have hS := hR.rows (lkg_small hL ho16)
  have hRl : w.heap.size + 1 < w1.heap.size := (hr1.lt _ rfl).2
  obtain ⟨ua, uc, rfl⟩ := hS.slice
  obtain ⟨r1, r2, -, -⟩ := own_cell hr2
  clear hl2 hR hL
  go_wp2
  refine bodyPost_ret (v := .tuple #[.agg #[.slice ua (M.map bitsI).length uc], .bool true]) (by simp [results, Try.results75, go_sem, r1]) rfl ⟨_, _, M.map bitsI, rfl, ?_, hq2.setCell (by simp) _⟩
  exact (hS.keep fun b hb => Below.heap_setCell _ _ _ _ (by simp; omega)).weak fun b hb => ⟨by omega, by simp; omega⟩
theorem meet7 {α β γ δ ε ζ η : Type} {H G : α → β → γ → δ → ε → ζ → η → Prop} {R : Prop} (rest : ∀ a b c d e f g, H a b c d e f g → G a b c d e f g) (orders : (∀ a b c d e f g, H a b c d e f g → G a b c d e f g) → R) : R := orders rest
/-- Two graphs, drawn. -/
def TwoG (B d : Nat) (bs : List Int) (w : World) (e : Ending) (w' : World) : Prop :=
  ∃ u1 p u2 g, e = .returned (.tuple #[.agg #[u1], .agg #[u2]]) ∧ SlR (fun b => B ≤ b ∧ b < w'.heap.size) w' u1 p ∧ SlR (fun b => B ≤ b ∧ b < w'.heap.size) w' u2 g ∧ Mv w w' d bs
theorem SlR.baseMv {w w' : World} {B d : Nat} {bs : List Int} {v : Value} {g : List (List Int)} (h : SlR (fun b => B ≤ b ∧ b < w.heap.size) w v g) (hm : Mv w w' d bs) (hd : d < B) : SlR (fun b => B ≤ b ∧ b < w'.heap.size) w' v g :=
  h.baseKeep (fun b h1 h2 => hm.2.2.2.2.2 b h2 (by simp; omega)) hm.size (Nat.le_refl _)
theorem SlR.baseB {w w' : World} {B : Nat} {v : Value} {g : List (List Int)} (h : SlR (fun b => B ≤ b ∧ b < w.heap.size) w v g) (hb : Below w.heap.size w w') : SlR (fun b => B ≤ b ∧ b < w'.heap.size) w' v g :=
  h.baseKeep (fun b h1 h2 => hb.block b h2) hb.size (Nat.le_refl _)
/-- The state of the draw of two: the boxes of the results, of g (b4), of p (nb). -/
structure TwoS (w W : World) (E : TypeId) (d b4 nb : Nat) (bs : List Int) (ga : Option Addr) (gc : Nat) (g : List (List Int)) (pa : Option Addr) (pc : Nat) (p : List (List Int)) : Prop where
  hP : SlR (fun b => w.heap.size + 2 ≤ b ∧ b ≠ nb ∧ b < W.heap.size) W (.slice pa p.length pc) p
  ho : Own W (b4 + 1) E 1 (.slice (some ⟨nb, 0, none⟩) 1 1) 1 [.slice pa p.length pc]
  hx : Own W w.heap.size E 1 (.slice (some ⟨w.heap.size, 0, none⟩) 1 1) 1 [.slice none 0 0]
  hy : Own W w.heap.size E 1 (.slice (some ⟨w.heap.size + 1, 0, none⟩) 1 1) 1 [.slice none 0 0]
  hG : SlR (fun b => w.heap.size + 2 ≤ b ∧ b < b4) W (.slice ga g.length gc) g
  hm : Mv w W d bs
  c4 : W.cell? ⟨b4, 0, none⟩ = some (.slice ga g.length gc)
  hb4 : w.heap.size + 2 ≤ b4
  hd : d < w.heap.size
theorem TwoS.nb {w W : World} {E : TypeId} {d b4 nb : Nat} {bs : List Int} {ga : Option Addr} {gc : Nat} {g : List (List Int)} {pa : Option Addr} {pc : Nat} {p : List (List Int)} (h : TwoS w W E d b4 nb bs ga gc g pa pc p) : b4 + 1 ≤ nb ∧ nb < W.heap.size := h.ho.lt nb rfl
theorem TwoS.mv {w W W' : World} {E : TypeId} {d b4 nb : Nat} {bs : List Int} {ga : Option Addr} {gc : Nat} {g : List (List Int)} {pa : Option Addr} {pc : Nat} {p : List (List Int)} (h : TwoS w W E d b4 nb bs ga gc g pa pc p) (k : Mv W W' d bs) : TwoS w W' E d b4 nb bs ga gc g pa pc p := by
  have h1 := h.nb
  have h2 := h.hb4
  have h3 := h.hd
  have h4 := k.size
  exact ⟨(h.hP.keep fun b hb => k.2.2.2.2.2 b hb.2.2 (by simp; omega)).weak fun b hb => ⟨hb.1, hb.2.1, by omega⟩, own1_kept h.ho k.2 (by simp; omega), own1_kept h.hx k.2 (by simp; omega), own1_kept h.hy k.2 (by simp; omega), h.hG.keep fun b hb => k.2.2.2.2.2 b (by omega) (by simp; omega), h.hm.trans k,
    (k.cell (a := ⟨b4, 0, none⟩) (by show b4 < _; omega) (by show b4 ≠ d; omega)).trans h.c4, h2, h3⟩
theorem TwoS.put {w W : World} {E : TypeId} {d b4 nb : Nat} {bs : List Int} {ga : Option Addr} {gc : Nat} {g : List (List Int)} {pa : Option Addr} {pc : Nat} {p : List (List Int)} (h : TwoS w W E d b4 nb bs ga gc g pa pc p) {qa : Option Addr} {qc : Nat} {q : List (List Int)} (hq : SlR (fun b => nb < b ∧ b < W.heap.size) W (.slice qa q.length qc) q) :
    TwoS w (W.setCell ⟨nb, 0, none⟩ (.slice qa q.length qc)) E d b4 nb bs ga gc g qa qc q := by
  have h1 := h.nb
  have h2 := h.hb4
  have h3 := h.hd
  have h4 := h.hm.size
  have hk : ∀ b, b ≠ nb → (W.setCell ⟨nb, 0, none⟩ (.slice qa q.length qc)).heap[b]? = W.heap[b]? := fun b hb => Below.heap_setCell _ _ _ _ (by simpa using hb)
  exact ⟨(hq.keep fun b hb => hk b (by omega)).weak fun b hb => ⟨by omega, by omega, by simp; omega⟩, own_set h.ho _, own1_keep h.hx (hk _ (by omega)), own1_keep h.hy (hk _ (by omega)), h.hG.keep fun b hb => hk b (by omega), h.hm.base ((Below.refl _ _).setCell (by simp; omega) _) h3, (World.cell?_of_block (a := ⟨b4, 0, none⟩) (hk b4 (by omega))).trans h.c4, h2, h3⟩
set_option maxRecDepth 100000 in
set_option maxHeartbeats 8000000 in
theorem l4DrawTwo_any {d : Nat} {bs : List Int} {w : World} (hd : Cur w d bs) (hl : bs.length ≤ 4096) :
    Calls Try.prog 46 #[.pointer (some ⟨d, 0, none⟩)] w (TwoG w.heap.size d bs w) := by
  have hdl := hd.lt
  have hb0 : Below w.heap.size w ((w.alloc (.cells #[.slice none 0 0] 31)).alloc (.cells #[.slice none 0 0] 31)) := ((Below.refl _ _).alloc (Nat.le_refl _) _).alloc (by simp) _
  have hx0 : Own ((w.alloc (.cells #[.slice none 0 0] 31)).alloc (.cells #[.slice none 0 0] 31)) w.heap.size 31 1 (.slice (some ⟨w.heap.size, 0, none⟩) 1 1) 1 [.slice none 0 0] := (own_new w w.heap.size 31 (.slice none 0 0) (Nat.le_refl _)).alloc _
  have hy0 := own_new (w.alloc (.cells #[.slice none 0 0] 31)) w.heap.size 31 (.slice none 0 0) (by simp)
  rw [show (w.alloc (.cells #[.slice none 0 0] 31)).heap.size = w.heap.size + 1 by simp] at hy0
  have hm0 := Mv.start hd hb0 (Nat.le_refl _)
  have hs0 : w.heap.size + 2 ≤ ((w.alloc (.cells #[.slice none 0 0] 31)).alloc (.cells #[.slice none 0 0] 31)).heap.size := by simp
  have hda := l1DrawAny_any hm0.1 hl
  go_enter Try.func46, Try.ntmps46
  go_wp2_with fail
  refine hda.mono ?_
  rintro e w1 ⟨ug, g, rfl, hG, hgl, -, hm1⟩
  have hx1 := own1_kept hx0 hm1.2 (by simp; omega)
  have hy1 := own1_kept hy0 hm1.2 (by simp; omega)
  have hs1 := hm1.size
  have hm1 := hm0.trans hm1
  have hG1 : SlR (fun b => w.heap.size + 2 ≤ b ∧ b < w1.heap.size) w1 ug g := hG.weak fun b hb => ⟨by omega, hb.2⟩
  obtain ⟨ga, gc, rfl⟩ := hG.slice
  have hb2 : Below w1.heap.size w1 (w1.alloc (.cells #[.slice ga g.length gc] 31)) := (Below.refl _ _).alloc (Nat.le_refl _) _
  have hm2 := hm1.below hb2 (Nat.le_refl _)
  have hx2 := hx1.below hb2 (Nat.le_refl _)
  have hy2 := hy1.below hb2 (Nat.le_refl _)
  have hG2 := hG1.keep (fun b hb => hb2.block b hb.2)
  have c2 : (w1.alloc (.cells #[.slice ga g.length gc] 31)).cell? ⟨w1.heap.size, 0, none⟩ = some (.slice ga g.length gc) := by simp [go_sem]
  have hs2 : w1.heap.size < (w1.alloc (.cells #[.slice ga g.length gc] 31)).heap.size := by simp
  have hw1 : w.heap.size + 2 ≤ w1.heap.size := by omega
  clear hda hm0 hm1 hx0 hy0 hx1 hy1 hb0 hb2 hG hG1 hs0 hs1 hd
  go_wp2
  generalize hW : (w1.alloc (.cells #[.slice ga g.length gc] 31)) = wi at *
  clear hW
  generalize w1.heap.size = b4 at *
  have hs : b4 + 1 ≤ wi.heap.size := hs2
  clear hs2
  apply meet7 (H := fun (nb : Nat) (W : World) (us : Value) (p : List (List Int)) (pa : Option Addr) (pc : Nat) (bb : Bool) => SlR (fun b => w.heap.size + 2 ≤ b ∧ b ≠ nb ∧ b < W.heap.size) W (.slice pa p.length pc) p ∧ Own W (b4 + 1) 31 1 (.slice (some ⟨nb, 0, none⟩) 1 1) 1 [.slice pa p.length pc] ∧ Own W w.heap.size 31 1 (.slice (some ⟨w.heap.size, 0, none⟩) 1 1) 1 [.slice none 0 0] ∧ Own W w.heap.size 31 1 (.slice (some ⟨w.heap.size + 1, 0, none⟩) 1 1) 1 [.slice none 0 0] ∧ SlR (fun b => w.heap.size + 2 ≤ b ∧ b < b4) W (.slice ga g.length gc) g ∧ Mv w W d bs ∧ W.cell? ⟨b4, 0, none⟩ = some (.slice ga g.length gc))
  case orders =>
    intro rest
    refine wp_region_held_drew (S := (fun w' => w'.cell? ⟨b4, 0, none⟩ = some (.slice ga g.length gc))) (by kernel_rfl) ?_ (fun hHeld => ?_)
    · first | assumption | (simp [*, go_sem])
    have hm := hm2.below (B := wi.heap.size) ((Below.refl _ _).drew) (Nat.le_refl _)
    have hx := hx2.below (B1 := wi.heap.size) ((Below.refl _ _).drew) (Nat.le_refl _)
    have hy := hy2.below (B1 := wi.heap.size) ((Below.refl _ _).drew) (Nat.le_refl _)
    have hG := hG2.drew
    replace hs : b4 + 1 ≤ wi.drew.heap.size := hs
    generalize wi.drew = wd at hm hx hy hG hs hHeld ⊢
    refine wpAnyH_take (i := 0) (v := ?v1) (by simp only [List.getElem?_toArray, List.getElem?_cons_zero]; exact rfl) (by kernel_rfl) (by kernel_rfl) (by kernel_rfl) (by intro _ _ _ h; exact h) (Or.inl ⟨by rfl, ?y1⟩) hHeld ?_
    case y1 => (intro w hSw; (try dsimp only at hSw); go_simp; try (with_reducible rfl))
    try simp only [Act.put, List.setIfInBounds_toArray, List.set_cons_zero, List.set_cons_succ]
    refine wpAnyH_take (i := 1) (v := ?v2) (by simp only [List.getElem?_toArray, List.getElem?_cons_succ, List.getElem?_cons_zero]; exact rfl) (by kernel_rfl) (by kernel_rfl) (by kernel_rfl) (by intro _ _ _ h; exact h) (Or.inl ⟨by rfl, ?y2⟩) hHeld ?_
    case y2 => (intro w hSw; (try dsimp only at hSw); go_simp; try (with_reducible rfl))
    try simp only [Act.put, List.setIfInBounds_toArray, List.set_cons_zero, List.set_cons_succ]
    refine wpAnyH_take (i := 2) (v := ?v3) (by simp only [List.getElem?_toArray, List.getElem?_cons_succ, List.getElem?_cons_zero]; exact rfl) (by kernel_rfl) (by kernel_rfl) (by kernel_rfl) (by intro _ _ _ h; exact h) (Or.inl ⟨by rfl, ?y3⟩) hHeld ?_
    case y3 => (intro w hSw; (try dsimp only at hSw); go_simp; try (with_reducible rfl))
    try simp only [Act.put, List.setIfInBounds_toArray, List.set_cons_zero, List.set_cons_succ]
    refine wpAnyH_ready (rs := [3, 8]) (by kernel_rfl) (by simp) ?_
    refine (AllReadyH.cons (by simp only [List.getElem?_toArray, List.getElem?_cons_succ, List.getElem?_cons_zero]; exact rfl) (fun K hK => ?b4_3) (AllReadyH.cons (by simp only [List.getElem?_toArray, List.getElem?_cons_succ, List.getElem?_cons_zero]; exact rfl) (fun K hK => ?b4_8) AllReadyH.nil))
    case b4_3 =>
      go_simp
      refine (l1DrawSet_any hm.1 hl hG hgl).mono ?_
      rintro e wn ⟨us, xs, rfl, hus, hxl, hmn⟩
      have hxs := Own.ints (xs := xs) hus (by omega)
      replace hx := own1_kept hx hmn.2 (by simp; omega)
      replace hy := own1_kept hy hmn.2 (by simp; omega)
      try (replace ho := own1_kept ho hmn.2 (by have := (ho.lt nb rfl).1; simp; omega))
      replace hG := hG.keep (fun b hb => hmn.2.2.2.2.2 b (by omega) (by simp; omega))
      replace hHeld := (hmn.cell (a := ⟨b4, 0, none⟩) (by show b4 < _; omega) (by show b4 ≠ d; omega)).trans hHeld
      have hs' := hmn.size
      replace hs : b4 + 1 ≤ wn.heap.size := (by omega)
      replace hm := hm.trans hmn
      clear hmn hus hs'
      obtain ⟨wd, rfl⟩ : ∃ wx : World, wx = wn := ⟨_, rfl⟩
      try dsimp only
      refine hK.out _ _ ?h5 (fun hHeld => ?_)
      case h5 => first | assumption | (simp [*, go_sem])
      clear hK K
      try simp only [Act.put, List.setIfInBounds_toArray, List.set_cons_zero, List.set_cons_succ]
      refine wpAnyH_ready (rs := [4, 8]) (by kernel_rfl) (by simp) ?_
      refine (AllReadyH.cons (by simp only [List.getElem?_toArray, List.getElem?_cons_succ, List.getElem?_cons_zero]; exact rfl) (fun K hK => ?b6_4) (AllReadyH.cons (by simp only [List.getElem?_toArray, List.getElem?_cons_succ, List.getElem?_cons_zero]; exact rfl) (fun K hK => ?b6_8) AllReadyH.nil))
      case b6_4 =>
        go_simp
        refine (induced_any hG hxs).mono ?_
        rintro e wn ⟨up, bb, p, rfl, hP0, hbn⟩
        have hP : SlR (fun b => w.heap.size + 2 ≤ b ∧ b < wn.heap.size) wn up p := hP0.weak (fun b hb => ⟨by omega, hb.2⟩)
        try (have hPn : SlR (fun b => w.heap.size + 2 ≤ b ∧ b ≠ nb ∧ b < wn.heap.size) wn up p := hP0.weak (fun b hb => ⟨by omega, by have := (ho.lt nb rfl).2; omega, hb.2⟩))
        replace hm := hm.below hbn (Nat.le_refl _)
        replace hx := hx.below hbn (Nat.le_refl _)
        replace hy := hy.below hbn (Nat.le_refl _)
        try (replace ho := ho.below hbn (Nat.le_refl _))
        replace hG := hG.keep (fun b hb => hbn.block b (by omega))
        replace hHeld := (hbn.cell (cell_lt hHeld)).trans hHeld
        have hs' := hbn.size
        replace hs : b4 + 1 ≤ wn.heap.size := (by omega)
        clear hbn hs' hP0 hxs
        obtain ⟨pa, pc, rfl⟩ := hP.slice
        obtain ⟨wd, rfl⟩ : ∃ wx : World, wx = wn := ⟨_, rfl⟩
        try dsimp only
        refine hK.out _ _ ?h7 (fun hHeld => ?_)
        case h7 => first | assumption | (simp [*, go_sem])
        clear hK K
        try simp only [Act.put, List.setIfInBounds_toArray, List.set_cons_zero, List.set_cons_succ]
        refine wpAnyH_take (i := 5) (v := ?v8) (by simp only [List.getElem?_toArray, List.getElem?_cons_succ, List.getElem?_cons_zero]; exact rfl) (by kernel_rfl) (by kernel_rfl) (by kernel_rfl) (by intro _ _ _ h; exact h) (Or.inl ⟨by rfl, ?y8⟩) hHeld ?_
        case y8 => (intro w hSw; (try dsimp only at hSw); go_simp; try (with_reducible rfl))
        try simp only [Act.put, List.setIfInBounds_toArray, List.set_cons_zero, List.set_cons_succ]
        refine wpAnyH_take (i := 6) (v := ?v9) (by simp only [List.getElem?_toArray, List.getElem?_cons_succ, List.getElem?_cons_zero]; exact rfl) (by kernel_rfl) (by kernel_rfl) (by kernel_rfl) (by intro _ _ _ h; exact h) (Or.inl ⟨by rfl, ?y9⟩) hHeld ?_
        case y9 => (intro w hSw; (try dsimp only at hSw); go_simp; try (with_reducible rfl))
        try simp only [Act.put, List.setIfInBounds_toArray, List.set_cons_zero, List.set_cons_succ]
        refine wpAnyH_take (i := 7) (v := ?v10) (by simp only [List.getElem?_toArray, List.getElem?_cons_succ, List.getElem?_cons_zero]; exact rfl) (by kernel_rfl) (by kernel_rfl) (by kernel_rfl) (by intro _ _ _ h; exact h) (Or.inl ⟨by rfl, ?y10⟩) hHeld ?_
        case y10 => (intro w hSw; (try dsimp only at hSw); go_simp; try (with_reducible rfl))
        try simp only [Act.put, List.setIfInBounds_toArray, List.set_cons_zero, List.set_cons_succ]
        refine wpAnyH_ready (rs := [8]) (by kernel_rfl) (by simp) ?_
        refine AllReadyH.cons (by simp only [List.getElem?_toArray, List.getElem?_cons_succ, List.getElem?_cons_zero]; exact rfl) (fun K hK => ?_) AllReadyH.nil
        go_simp
        have hbn : Below wd.heap.size wd (wd.alloc (.cells #[.slice none 0 0] 31)) := (Below.refl _ _).alloc (Nat.le_refl _) _
        have ho := own_new wd (b4 + 1) 31 (.slice none 0 0) hs
        replace hm := hm.below hbn (Nat.le_refl _)
        replace hx := hx.below hbn (Nat.le_refl _)
        replace hy := hy.below hbn (Nat.le_refl _)
        replace hG := hG.keep (fun b hb => hbn.block b (by omega))
        try (have hPn : SlR (fun b => w.heap.size + 2 ≤ b ∧ b ≠ wd.heap.size ∧ b < (wd.alloc (.cells #[.slice none 0 0] 31)).heap.size) (wd.alloc (.cells #[.slice none 0 0] 31)) (.slice pa p.length pc) p := (hP.keep (fun b hb => hbn.block b hb.2)).weak (fun b hb => ⟨hb.1, by omega, by simp; omega⟩))
        try (replace hxs := hxs.below hbn (Nat.le_refl _))
        replace hHeld := (hbn.cell (cell_lt hHeld)).trans hHeld
        have hs' := hbn.size
        replace hs : b4 + 1 ≤ (wd.alloc (.cells #[.slice none 0 0] 31)).heap.size := (by omega)
        clear hbn hs'
        generalize wd.heap.size = nb at *
        generalize (wd.alloc (.cells #[.slice none 0 0] 31)) = wn at *
        obtain ⟨wd, rfl⟩ : ∃ wx : World, wx = wn := ⟨_, rfl⟩
        try dsimp only
        refine hK.out _ _ ?h12 (fun hHeld => ?_)
        case h12 => first | assumption | (simp [*, go_sem])
        clear hK K
        try simp only [Act.put, List.setIfInBounds_toArray, List.set_cons_zero, List.set_cons_succ]
        refine wpAnyH_ready (rs := [9]) (by kernel_rfl) (by simp) ?_
        refine AllReadyH.cons (by simp only [List.getElem?_toArray, List.getElem?_cons_succ, List.getElem?_cons_zero]; exact rfl) (fun K hK => ?_) AllReadyH.nil
        obtain ⟨o1, o2, hnb, hnl⟩ := own_cell ho
        go_simp
        have ho' := own_set ho (.slice pa p.length pc)
        have hkn : ∀ b, b ≠ nb → (wd.setCell ⟨nb, 0, none⟩ (.slice pa p.length pc)).heap[b]? = wd.heap[b]? := fun b hb => Below.heap_setCell _ _ _ _ (by simpa using hb)
        have hwl := hm.size
        replace hm : Mv w (wd.setCell ⟨nb, 0, none⟩ (.slice pa p.length pc)) d bs := hm.base ((Below.refl _ _).setCell (by simp; omega) _) hdl
        replace hx := own1_keep hx (hkn _ (by omega))
        replace hy := own1_keep hy (hkn _ (by omega))
        replace hHeld := (World.cell?_of_block (a := ⟨b4, 0, none⟩) (hkn b4 (by omega))).trans hHeld
        clear o1 o2 ho hwl
        try dsimp only
        refine hK.out _ _ ?h14 (fun hHeld => ?_)
        case h14 => first | assumption | (simp [*, go_sem])
        clear hK K
        try simp only [Act.put, List.setIfInBounds_toArray, List.set_cons_zero, List.set_cons_succ]
        refine wpAnyH_take (i := 10) (v := ?v15) (by simp only [List.getElem?_toArray, List.getElem?_cons_succ, List.getElem?_cons_zero]; exact rfl) (by kernel_rfl) (by kernel_rfl) (by kernel_rfl) (by intro _ _ _ h; exact h) (Or.inl ⟨by rfl, ?y15⟩) hHeld ?_
        case y15 => (intro w hSw; (try dsimp only at hSw); go_simp; try (with_reducible rfl))
        try simp only [Act.put, List.setIfInBounds_toArray, List.set_cons_zero, List.set_cons_succ]
        refine wpAnyH_done (by kernel_rfl) ?_ _
        replace hG := hG.keep (fun b hb => hkn b (by omega))
        replace hPn := (hPn.keep (fun b hb => hkn b hb.2.1)).weak (S' := fun b => w.heap.size + 2 ≤ b ∧ b ≠ nb ∧ b < (wd.setCell ⟨nb, 0, none⟩ (.slice pa p.length pc)).heap.size) (fun b hb => ⟨hb.1, hb.2.1, by simp; exact hb.2.2⟩)
        generalize wd.setCell ⟨nb, 0, none⟩ (.slice pa p.length pc) = wf at *
        exact rest nb wf us p pa pc bb ⟨hPn, ho', hx, hy, hG, hm, hHeld⟩
      case b6_8 =>
        go_simp
        have hbn : Below wd.heap.size wd (wd.alloc (.cells #[.slice none 0 0] 31)) := (Below.refl _ _).alloc (Nat.le_refl _) _
        have ho := own_new wd (b4 + 1) 31 (.slice none 0 0) hs
        replace hm := hm.below hbn (Nat.le_refl _)
        replace hx := hx.below hbn (Nat.le_refl _)
        replace hy := hy.below hbn (Nat.le_refl _)
        replace hG := hG.keep (fun b hb => hbn.block b (by omega))
        try (have hPn : SlR (fun b => w.heap.size + 2 ≤ b ∧ b ≠ wd.heap.size ∧ b < (wd.alloc (.cells #[.slice none 0 0] 31)).heap.size) (wd.alloc (.cells #[.slice none 0 0] 31)) (.slice pa p.length pc) p := (hP.keep (fun b hb => hbn.block b hb.2)).weak (fun b hb => ⟨hb.1, by omega, by simp; omega⟩))
        try (replace hxs := hxs.below hbn (Nat.le_refl _))
        replace hHeld := (hbn.cell (cell_lt hHeld)).trans hHeld
        have hs' := hbn.size
        replace hs : b4 + 1 ≤ (wd.alloc (.cells #[.slice none 0 0] 31)).heap.size := (by omega)
        clear hbn hs'
        generalize wd.heap.size = nb at *
        generalize (wd.alloc (.cells #[.slice none 0 0] 31)) = wn at *
        obtain ⟨wd, rfl⟩ : ∃ wx : World, wx = wn := ⟨_, rfl⟩
        try dsimp only
        refine hK.out _ _ ?h16 (fun hHeld => ?_)
        case h16 => first | assumption | (simp [*, go_sem])
        clear hK K
        try simp only [Act.put, List.setIfInBounds_toArray, List.set_cons_zero, List.set_cons_succ]
        refine wpAnyH_ready (rs := [4]) (by kernel_rfl) (by simp) ?_
        refine AllReadyH.cons (by simp only [List.getElem?_toArray, List.getElem?_cons_succ, List.getElem?_cons_zero]; exact rfl) (fun K hK => ?_) AllReadyH.nil
        go_simp
        refine (induced_any hG hxs).mono ?_
        rintro e wn ⟨up, bb, p, rfl, hP0, hbn⟩
        have hP : SlR (fun b => w.heap.size + 2 ≤ b ∧ b < wn.heap.size) wn up p := hP0.weak (fun b hb => ⟨by omega, hb.2⟩)
        try (have hPn : SlR (fun b => w.heap.size + 2 ≤ b ∧ b ≠ nb ∧ b < wn.heap.size) wn up p := hP0.weak (fun b hb => ⟨by omega, by have := (ho.lt nb rfl).2; omega, hb.2⟩))
        replace hm := hm.below hbn (Nat.le_refl _)
        replace hx := hx.below hbn (Nat.le_refl _)
        replace hy := hy.below hbn (Nat.le_refl _)
        try (replace ho := ho.below hbn (Nat.le_refl _))
        replace hG := hG.keep (fun b hb => hbn.block b (by omega))
        replace hHeld := (hbn.cell (cell_lt hHeld)).trans hHeld
        have hs' := hbn.size
        replace hs : b4 + 1 ≤ wn.heap.size := (by omega)
        clear hbn hs' hP0 hxs
        obtain ⟨pa, pc, rfl⟩ := hP.slice
        obtain ⟨wd, rfl⟩ : ∃ wx : World, wx = wn := ⟨_, rfl⟩
        try dsimp only
        refine hK.out _ _ ?h18 (fun hHeld => ?_)
        case h18 => first | assumption | (simp [*, go_sem])
        clear hK K
        try simp only [Act.put, List.setIfInBounds_toArray, List.set_cons_zero, List.set_cons_succ]
        refine wpAnyH_take (i := 5) (v := ?v19) (by simp only [List.getElem?_toArray, List.getElem?_cons_succ, List.getElem?_cons_zero]; exact rfl) (by kernel_rfl) (by kernel_rfl) (by kernel_rfl) (by intro _ _ _ h; exact h) (Or.inl ⟨by rfl, ?y19⟩) hHeld ?_
        case y19 => (intro w hSw; (try dsimp only at hSw); go_simp; try (with_reducible rfl))
        try simp only [Act.put, List.setIfInBounds_toArray, List.set_cons_zero, List.set_cons_succ]
        refine wpAnyH_take (i := 6) (v := ?v20) (by simp only [List.getElem?_toArray, List.getElem?_cons_succ, List.getElem?_cons_zero]; exact rfl) (by kernel_rfl) (by kernel_rfl) (by kernel_rfl) (by intro _ _ _ h; exact h) (Or.inl ⟨by rfl, ?y20⟩) hHeld ?_
        case y20 => (intro w hSw; (try dsimp only at hSw); go_simp; try (with_reducible rfl))
        try simp only [Act.put, List.setIfInBounds_toArray, List.set_cons_zero, List.set_cons_succ]
        refine wpAnyH_take (i := 7) (v := ?v21) (by simp only [List.getElem?_toArray, List.getElem?_cons_succ, List.getElem?_cons_zero]; exact rfl) (by kernel_rfl) (by kernel_rfl) (by kernel_rfl) (by intro _ _ _ h; exact h) (Or.inl ⟨by rfl, ?y21⟩) hHeld ?_
        case y21 => (intro w hSw; (try dsimp only at hSw); go_simp; try (with_reducible rfl))
        try simp only [Act.put, List.setIfInBounds_toArray, List.set_cons_zero, List.set_cons_succ]
        refine wpAnyH_ready (rs := [9]) (by kernel_rfl) (by simp) ?_
        refine AllReadyH.cons (by simp only [List.getElem?_toArray, List.getElem?_cons_succ, List.getElem?_cons_zero]; exact rfl) (fun K hK => ?_) AllReadyH.nil
        obtain ⟨o1, o2, hnb, hnl⟩ := own_cell ho
        go_simp
        have ho' := own_set ho (.slice pa p.length pc)
        have hkn : ∀ b, b ≠ nb → (wd.setCell ⟨nb, 0, none⟩ (.slice pa p.length pc)).heap[b]? = wd.heap[b]? := fun b hb => Below.heap_setCell _ _ _ _ (by simpa using hb)
        have hwl := hm.size
        replace hm : Mv w (wd.setCell ⟨nb, 0, none⟩ (.slice pa p.length pc)) d bs := hm.base ((Below.refl _ _).setCell (by simp; omega) _) hdl
        replace hx := own1_keep hx (hkn _ (by omega))
        replace hy := own1_keep hy (hkn _ (by omega))
        replace hHeld := (World.cell?_of_block (a := ⟨b4, 0, none⟩) (hkn b4 (by omega))).trans hHeld
        clear o1 o2 ho hwl
        try dsimp only
        refine hK.out _ _ ?h23 (fun hHeld => ?_)
        case h23 => first | assumption | (simp [*, go_sem])
        clear hK K
        try simp only [Act.put, List.setIfInBounds_toArray, List.set_cons_zero, List.set_cons_succ]
        refine wpAnyH_take (i := 10) (v := ?v24) (by simp only [List.getElem?_toArray, List.getElem?_cons_succ, List.getElem?_cons_zero]; exact rfl) (by kernel_rfl) (by kernel_rfl) (by kernel_rfl) (by intro _ _ _ h; exact h) (Or.inl ⟨by rfl, ?y24⟩) hHeld ?_
        case y24 => (intro w hSw; (try dsimp only at hSw); go_simp; try (with_reducible rfl))
        try simp only [Act.put, List.setIfInBounds_toArray, List.set_cons_zero, List.set_cons_succ]
        refine wpAnyH_done (by kernel_rfl) ?_ _
        replace hG := hG.keep (fun b hb => hkn b (by omega))
        replace hPn := (hPn.keep (fun b hb => hkn b hb.2.1)).weak (S' := fun b => w.heap.size + 2 ≤ b ∧ b ≠ nb ∧ b < (wd.setCell ⟨nb, 0, none⟩ (.slice pa p.length pc)).heap.size) (fun b hb => ⟨hb.1, hb.2.1, by simp; exact hb.2.2⟩)
        generalize wd.setCell ⟨nb, 0, none⟩ (.slice pa p.length pc) = wf at *
        exact rest nb wf us p pa pc bb ⟨hPn, ho', hx, hy, hG, hm, hHeld⟩
    case b4_8 =>
      go_simp
      have hbn : Below wd.heap.size wd (wd.alloc (.cells #[.slice none 0 0] 31)) := (Below.refl _ _).alloc (Nat.le_refl _) _
      have ho := own_new wd (b4 + 1) 31 (.slice none 0 0) hs
      replace hm := hm.below hbn (Nat.le_refl _)
      replace hx := hx.below hbn (Nat.le_refl _)
      replace hy := hy.below hbn (Nat.le_refl _)
      replace hG := hG.keep (fun b hb => hbn.block b (by omega))
      try (have hPn : SlR (fun b => w.heap.size + 2 ≤ b ∧ b ≠ wd.heap.size ∧ b < (wd.alloc (.cells #[.slice none 0 0] 31)).heap.size) (wd.alloc (.cells #[.slice none 0 0] 31)) (.slice pa p.length pc) p := (hP.keep (fun b hb => hbn.block b hb.2)).weak (fun b hb => ⟨hb.1, by omega, by simp; omega⟩))
      try (replace hxs := hxs.below hbn (Nat.le_refl _))
      replace hHeld := (hbn.cell (cell_lt hHeld)).trans hHeld
      have hs' := hbn.size
      replace hs : b4 + 1 ≤ (wd.alloc (.cells #[.slice none 0 0] 31)).heap.size := (by omega)
      clear hbn hs'
      generalize wd.heap.size = nb at *
      generalize (wd.alloc (.cells #[.slice none 0 0] 31)) = wn at *
      obtain ⟨wd, rfl⟩ : ∃ wx : World, wx = wn := ⟨_, rfl⟩
      try dsimp only
      refine hK.out _ _ ?h25 (fun hHeld => ?_)
      case h25 => first | assumption | (simp [*, go_sem])
      clear hK K
      try simp only [Act.put, List.setIfInBounds_toArray, List.set_cons_zero, List.set_cons_succ]
      refine wpAnyH_ready (rs := [3]) (by kernel_rfl) (by simp) ?_
      refine AllReadyH.cons (by simp only [List.getElem?_toArray, List.getElem?_cons_succ, List.getElem?_cons_zero]; exact rfl) (fun K hK => ?_) AllReadyH.nil
      go_simp
      refine (l1DrawSet_any hm.1 hl hG hgl).mono ?_
      rintro e wn ⟨us, xs, rfl, hus, hxl, hmn⟩
      have hxs := Own.ints (xs := xs) hus (by omega)
      replace hx := own1_kept hx hmn.2 (by simp; omega)
      replace hy := own1_kept hy hmn.2 (by simp; omega)
      try (replace ho := own1_kept ho hmn.2 (by have := (ho.lt nb rfl).1; simp; omega))
      replace hG := hG.keep (fun b hb => hmn.2.2.2.2.2 b (by omega) (by simp; omega))
      replace hHeld := (hmn.cell (a := ⟨b4, 0, none⟩) (by show b4 < _; omega) (by show b4 ≠ d; omega)).trans hHeld
      have hs' := hmn.size
      replace hs : b4 + 1 ≤ wn.heap.size := (by omega)
      replace hm := hm.trans hmn
      clear hmn hus hs'
      obtain ⟨wd, rfl⟩ : ∃ wx : World, wx = wn := ⟨_, rfl⟩
      try dsimp only
      refine hK.out _ _ ?h27 (fun hHeld => ?_)
      case h27 => first | assumption | (simp [*, go_sem])
      clear hK K
      try simp only [Act.put, List.setIfInBounds_toArray, List.set_cons_zero, List.set_cons_succ]
      refine wpAnyH_ready (rs := [4]) (by kernel_rfl) (by simp) ?_
      refine AllReadyH.cons (by simp only [List.getElem?_toArray, List.getElem?_cons_succ, List.getElem?_cons_zero]; exact rfl) (fun K hK => ?_) AllReadyH.nil
      go_simp
      refine (induced_any hG hxs).mono ?_
      rintro e wn ⟨up, bb, p, rfl, hP0, hbn⟩
      have hP : SlR (fun b => w.heap.size + 2 ≤ b ∧ b < wn.heap.size) wn up p := hP0.weak (fun b hb => ⟨by omega, hb.2⟩)
      try (have hPn : SlR (fun b => w.heap.size + 2 ≤ b ∧ b ≠ nb ∧ b < wn.heap.size) wn up p := hP0.weak (fun b hb => ⟨by omega, by have := (ho.lt nb rfl).2; omega, hb.2⟩))
      replace hm := hm.below hbn (Nat.le_refl _)
      replace hx := hx.below hbn (Nat.le_refl _)
      replace hy := hy.below hbn (Nat.le_refl _)
      try (replace ho := ho.below hbn (Nat.le_refl _))
      replace hG := hG.keep (fun b hb => hbn.block b (by omega))
      replace hHeld := (hbn.cell (cell_lt hHeld)).trans hHeld
      have hs' := hbn.size
      replace hs : b4 + 1 ≤ wn.heap.size := (by omega)
      clear hbn hs' hP0 hxs
      obtain ⟨pa, pc, rfl⟩ := hP.slice
      obtain ⟨wd, rfl⟩ : ∃ wx : World, wx = wn := ⟨_, rfl⟩
      try dsimp only
      refine hK.out _ _ ?h29 (fun hHeld => ?_)
      case h29 => first | assumption | (simp [*, go_sem])
      clear hK K
      try simp only [Act.put, List.setIfInBounds_toArray, List.set_cons_zero, List.set_cons_succ]
      refine wpAnyH_take (i := 5) (v := ?v30) (by simp only [List.getElem?_toArray, List.getElem?_cons_succ, List.getElem?_cons_zero]; exact rfl) (by kernel_rfl) (by kernel_rfl) (by kernel_rfl) (by intro _ _ _ h; exact h) (Or.inl ⟨by rfl, ?y30⟩) hHeld ?_
      case y30 => (intro w hSw; (try dsimp only at hSw); go_simp; try (with_reducible rfl))
      try simp only [Act.put, List.setIfInBounds_toArray, List.set_cons_zero, List.set_cons_succ]
      refine wpAnyH_take (i := 6) (v := ?v31) (by simp only [List.getElem?_toArray, List.getElem?_cons_succ, List.getElem?_cons_zero]; exact rfl) (by kernel_rfl) (by kernel_rfl) (by kernel_rfl) (by intro _ _ _ h; exact h) (Or.inl ⟨by rfl, ?y31⟩) hHeld ?_
      case y31 => (intro w hSw; (try dsimp only at hSw); go_simp; try (with_reducible rfl))
      try simp only [Act.put, List.setIfInBounds_toArray, List.set_cons_zero, List.set_cons_succ]
      refine wpAnyH_take (i := 7) (v := ?v32) (by simp only [List.getElem?_toArray, List.getElem?_cons_succ, List.getElem?_cons_zero]; exact rfl) (by kernel_rfl) (by kernel_rfl) (by kernel_rfl) (by intro _ _ _ h; exact h) (Or.inl ⟨by rfl, ?y32⟩) hHeld ?_
      case y32 => (intro w hSw; (try dsimp only at hSw); go_simp; try (with_reducible rfl))
      try simp only [Act.put, List.setIfInBounds_toArray, List.set_cons_zero, List.set_cons_succ]
      refine wpAnyH_ready (rs := [9]) (by kernel_rfl) (by simp) ?_
      refine AllReadyH.cons (by simp only [List.getElem?_toArray, List.getElem?_cons_succ, List.getElem?_cons_zero]; exact rfl) (fun K hK => ?_) AllReadyH.nil
      obtain ⟨o1, o2, hnb, hnl⟩ := own_cell ho
      go_simp
      have ho' := own_set ho (.slice pa p.length pc)
      have hkn : ∀ b, b ≠ nb → (wd.setCell ⟨nb, 0, none⟩ (.slice pa p.length pc)).heap[b]? = wd.heap[b]? := fun b hb => Below.heap_setCell _ _ _ _ (by simpa using hb)
      have hwl := hm.size
      replace hm : Mv w (wd.setCell ⟨nb, 0, none⟩ (.slice pa p.length pc)) d bs := hm.base ((Below.refl _ _).setCell (by simp; omega) _) hdl
      replace hx := own1_keep hx (hkn _ (by omega))
      replace hy := own1_keep hy (hkn _ (by omega))
      replace hHeld := (World.cell?_of_block (a := ⟨b4, 0, none⟩) (hkn b4 (by omega))).trans hHeld
      clear o1 o2 ho hwl
      try dsimp only
      refine hK.out _ _ ?h34 (fun hHeld => ?_)
      case h34 => first | assumption | (simp [*, go_sem])
      clear hK K
      try simp only [Act.put, List.setIfInBounds_toArray, List.set_cons_zero, List.set_cons_succ]
      refine wpAnyH_take (i := 10) (v := ?v35) (by simp only [List.getElem?_toArray, List.getElem?_cons_succ, List.getElem?_cons_zero]; exact rfl) (by kernel_rfl) (by kernel_rfl) (by kernel_rfl) (by intro _ _ _ h; exact h) (Or.inl ⟨by rfl, ?y35⟩) hHeld ?_
      case y35 => (intro w hSw; (try dsimp only at hSw); go_simp; try (with_reducible rfl))
      try simp only [Act.put, List.setIfInBounds_toArray, List.set_cons_zero, List.set_cons_succ]
      refine wpAnyH_done (by kernel_rfl) ?_ _
      replace hG := hG.keep (fun b hb => hkn b (by omega))
      replace hPn := (hPn.keep (fun b hb => hkn b hb.2.1)).weak (S' := fun b => w.heap.size + 2 ≤ b ∧ b ≠ nb ∧ b < (wd.setCell ⟨nb, 0, none⟩ (.slice pa p.length pc)).heap.size) (fun b hb => ⟨hb.1, hb.2.1, by simp; exact hb.2.2⟩)
      generalize wd.setCell ⟨nb, 0, none⟩ (.slice pa p.length pc) = wf at *
      exact rest nb wf us p pa pc bb ⟨hPn, ho', hx, hy, hG, hm, hHeld⟩
  case rest =>
    intro nb W us p pa pc bb ⟨hP, ho, hx, hy, hG, hm, c4⟩
    have T : TwoS w W 31 d b4 nb bs ga gc g pa pc p := ⟨hP, ho, hx, hy, hG, hm, c4, hw1, hdl⟩
    clear hP ho hx hy hG hm c4 hm1 hm2 hx2 hy2 hG2 c2 hs
    cases bb with
    | false =>
      have hnb5 := T.nb
      go_wp2_with fail
      refine (l1Below_any (n := 4) T.hm.1 hl (by omega)).mono ?_
      rintro e wg ⟨r, rfl, hr4, -, hmg⟩
      replace T := T.mv hmg
      replace hr4 := hr4 (by omega)
      have hr5 : (1 : Int) + (r : Int) = ((1 + r : Nat) : Int) := by omega
      have hof := l1DrawOf_any (n := 1 + r) T.hm.1 hl (by omega) (by omega)
      rw [← hr5] at hof
      clear hr5
      go_wp2_with fail
      refine hof.mono ?_
      rintro e wh ⟨uz, z, rfl, hz, hzg, -, hmh⟩
      replace T := T.mv hmh
      have hsz := hmg.size
      have hzv := hz.rows (gok_small hzg)
      obtain ⟨za, zc, rfl⟩ := hzv.slice
      obtain ⟨o1, o2, -, -⟩ := own_cell T.ho
      replace T := T.put (hzv.weak fun b hb => ⟨by omega, hb.2⟩)
      clear hof hmg hmh hz hzg hzv
      go_wp2_with fail
      refine (l1Once_any (n := 15) T.hm.1 hl (by omega)).mono ?_
      rintro e we ⟨b15, rfl, hme⟩
      replace T := T.mv hme
      cases b15 with
      | false =>
        obtain ⟨n1, -, -, -⟩ := own_cell T.ho
        have n4 := T.c4
        have T9 := T
        have hnb9 := T.nb
        have hb49 := T.hb4
        have hws9 := T.hm.size
        clear T
        go_wp2
        obtain ⟨wi, rfl⟩ : ∃ wx : World, wx = we := ⟨_, rfl⟩
        refine wp_region_held_drew (S := (fun w' => w'.cell? ⟨b4, 0, none⟩ = some (.slice ga g.length gc) ∧ w'.cell? ⟨nb, 0, none⟩ = some (.slice za z.length zc))) (by kernel_rfl) ?_ (fun hHeld => ?_)
        · first | exact ⟨‹_›, ‹_›⟩ | assumption | (simp [*, go_sem])
        have hP := T9.hP.drew
        have hG := T9.hG.drew
        have hx := T9.hx.below (B1 := wi.heap.size) ((Below.refl _ _).drew) (Nat.le_refl _)
        have hy := T9.hy.below (B1 := wi.heap.size) ((Below.refl _ _).drew) (Nat.le_refl _)
        have hm := T9.hm.below (B := wi.heap.size) ((Below.refl _ _).drew) (Nat.le_refl _)
        obtain ⟨e4, en⟩ := hHeld
        have hHeld : (fun w' => w'.cell? ⟨b4, 0, none⟩ = some (.slice ga g.length gc) ∧ w'.cell? ⟨nb, 0, none⟩ = some (.slice za z.length zc)) wi.drew := ⟨e4, en⟩
        have hP : SlR (fun b => w.heap.size + 2 ≤ b ∧ b < wi.drew.heap.size) wi.drew (.slice za z.length zc) z := hP.weak (fun b hb => ⟨hb.1, hb.2.2⟩)
        have hws : w.heap.size + 2 ≤ wi.drew.heap.size := (by show _ ≤ wi.heap.size; omega)
        generalize wi.drew = wd at hP hG hx hy hm hHeld e4 en hws ⊢
        refine wpAnyH_take (i := 0) (v := ?v36) (by simp only [List.getElem?_toArray, List.getElem?_cons_zero]; exact rfl) (by kernel_rfl) (by kernel_rfl) (by kernel_rfl) (by intro _ _ _ h; exact h) (Or.inl ⟨by rfl, ?y36⟩) hHeld ?_
        case y36 => (intro w hSw; (try dsimp only at hSw); go_simp; try (with_reducible rfl))
        try simp only [Act.put, List.setIfInBounds_toArray, List.set_cons_zero, List.set_cons_succ]
        refine wpAnyH_take (i := 1) (v := ?v37) (by simp only [List.getElem?_toArray, List.getElem?_cons_succ, List.getElem?_cons_zero]; exact rfl) (by kernel_rfl) (by kernel_rfl) (by kernel_rfl) (by intro _ _ _ h; exact h) (Or.inl ⟨by rfl, ?y37⟩) hHeld ?_
        case y37 => (intro w hSw; (try dsimp only at hSw); go_simp; try (with_reducible rfl))
        try simp only [Act.put, List.setIfInBounds_toArray, List.set_cons_zero, List.set_cons_succ]
        refine wpAnyH_ready (rs := [2]) (by kernel_rfl) (by simp) ?_
        refine AllReadyH.cons (by simp only [List.getElem?_toArray, List.getElem?_cons_succ, List.getElem?_cons_zero]; exact rfl) (fun K hK => ?_) AllReadyH.nil
        obtain ⟨x1, x2, -, -⟩ := own_cell hx
        go_simp
        have hk : ∀ b, b ≠ w.heap.size → (wd.setCell ⟨w.heap.size, 0, none⟩ (.slice za z.length zc)).heap[b]? = wd.heap[b]? := fun b hb => Below.heap_setCell _ _ _ _ (by simpa using hb)
        replace hP := hP.keep (fun b hb => hk b (by omega))
        replace hG := hG.keep (fun b hb => hk b (by omega))
        replace hx := own_set hx (.slice za z.length zc)
        replace hy := own1_keep hy (hk _ (by omega))
        replace hm := hm.base ((Below.refl _ _).setCell (p := ⟨w.heap.size, 0, none⟩) (by simp) (.slice za z.length zc)) hdl
        replace e4 := (World.cell?_of_block (a := ⟨b4, 0, none⟩) (hk b4 (by omega))).trans e4
        replace en := (World.cell?_of_block (a := ⟨nb, 0, none⟩) (hk nb (by omega))).trans en
        have hws' : w.heap.size + 2 ≤ (wd.setCell ⟨w.heap.size, 0, none⟩ (.slice za z.length zc)).heap.size := (by simpa using hws)
        replace hP := hP.weak (S' := fun b => w.heap.size + 2 ≤ b ∧ b < (wd.setCell ⟨w.heap.size, 0, none⟩ (.slice za z.length zc)).heap.size) (fun b hb => ⟨hb.1, by simpa using hb.2⟩)
        clear x1 x2 hk hws
        have hws := hws'
        clear hws'
        generalize wd.setCell ⟨w.heap.size, 0, none⟩ (.slice za z.length zc) = wn at *
        obtain ⟨wd, rfl⟩ : ∃ wx : World, wx = wn := ⟨_, rfl⟩
        try dsimp only
        refine hK.out _ _ ?h39 (fun hHeld => ?_)
        case h39 => first | exact ⟨‹_›, ‹_›⟩ | assumption | (simp [*, go_sem])
        clear hK K
        try simp only [Act.put, List.setIfInBounds_toArray, List.set_cons_zero, List.set_cons_succ]
        refine wpAnyH_ready (rs := [3]) (by kernel_rfl) (by simp) ?_
        refine AllReadyH.cons (by simp only [List.getElem?_toArray, List.getElem?_cons_succ, List.getElem?_cons_zero]; exact rfl) (fun K hK => ?_) AllReadyH.nil
        obtain ⟨x1, x2, -, -⟩ := own_cell hy
        go_simp
        have hk : ∀ b, b ≠ w.heap.size + 1 → (wd.setCell ⟨w.heap.size + 1, 0, none⟩ (.slice ga g.length gc)).heap[b]? = wd.heap[b]? := fun b hb => Below.heap_setCell _ _ _ _ (by simpa using hb)
        replace hP := hP.keep (fun b hb => hk b (by omega))
        replace hG := hG.keep (fun b hb => hk b (by omega))
        replace hy := own_set hy (.slice ga g.length gc)
        replace hx := own1_keep hx (hk _ (by omega))
        replace hm := hm.base ((Below.refl _ _).setCell (p := ⟨w.heap.size + 1, 0, none⟩) (by simp) (.slice ga g.length gc)) hdl
        replace e4 := (World.cell?_of_block (a := ⟨b4, 0, none⟩) (hk b4 (by omega))).trans e4
        replace en := (World.cell?_of_block (a := ⟨nb, 0, none⟩) (hk nb (by omega))).trans en
        have hws' : w.heap.size + 2 ≤ (wd.setCell ⟨w.heap.size + 1, 0, none⟩ (.slice ga g.length gc)).heap.size := (by simpa using hws)
        replace hP := hP.weak (S' := fun b => w.heap.size + 2 ≤ b ∧ b < (wd.setCell ⟨w.heap.size + 1, 0, none⟩ (.slice ga g.length gc)).heap.size) (fun b hb => ⟨hb.1, by simpa using hb.2⟩)
        clear x1 x2 hk hws
        have hws := hws'
        clear hws'
        generalize wd.setCell ⟨w.heap.size + 1, 0, none⟩ (.slice ga g.length gc) = wn at *
        obtain ⟨wd, rfl⟩ : ∃ wx : World, wx = wn := ⟨_, rfl⟩
        try dsimp only
        refine hK.out _ _ ?h41 (fun hHeld => ?_)
        case h41 => first | exact ⟨‹_›, ‹_›⟩ | assumption | (simp [*, go_sem])
        clear hK K
        try simp only [Act.put, List.setIfInBounds_toArray, List.set_cons_zero, List.set_cons_succ]
        refine wpAnyH_done (by kernel_rfl) ?_ _
        obtain ⟨k1, -, -, -⟩ := own_cell hx
        obtain ⟨k2, -, -, -⟩ := own_cell hy
        have hWs := cell_lt en
        go_wp2
        refine bodyPost_ret (v := .tuple #[.agg #[.slice za z.length zc], .agg #[.slice ga g.length gc]]) (by simp [results, Try.results46, go_sem, k1, k2]) rfl ⟨_, z, _, g, rfl, hP.weak (fun b hb => ⟨by omega, hb.2⟩), hG.weak (fun b hb => ⟨by omega, by have : nb < wd.heap.size := hWs; omega⟩), hm⟩
      | true =>
        have hnb7 := T.nb
        go_wp2_with fail
        refine (l4Draw_any T.hm.1 hl).mono ?_
        rintro e wf ⟨uq, q, rfl, hq, -, -, hmf⟩
        replace T := T.mv hmf
        obtain ⟨qa, qc, rfl⟩ := hq.slice
        obtain ⟨o1, o2, -, -⟩ := own_cell T.ho
        replace T := T.put (hq.weak fun b hb => ⟨by omega, hb.2⟩)
        clear hmf hq hme
        obtain ⟨n1, -, -, -⟩ := own_cell T.ho
        have n4 := T.c4
        have T9 := T
        have hnb9 := T.nb
        have hb49 := T.hb4
        have hws9 := T.hm.size
        clear T
        go_wp2
        generalize hW9 : (wf.setCell ⟨nb, 0, none⟩ (.slice qa q.length qc)) = wi at *
        refine wp_region_held_drew (S := (fun w' => w'.cell? ⟨b4, 0, none⟩ = some (.slice ga g.length gc) ∧ w'.cell? ⟨nb, 0, none⟩ = some (.slice qa q.length qc))) (by kernel_rfl) ?_ (fun hHeld => ?_)
        · first | exact ⟨‹_›, ‹_›⟩ | assumption | (simp [*, go_sem])
        have hP := T9.hP.drew
        have hG := T9.hG.drew
        have hx := T9.hx.below (B1 := wi.heap.size) ((Below.refl _ _).drew) (Nat.le_refl _)
        have hy := T9.hy.below (B1 := wi.heap.size) ((Below.refl _ _).drew) (Nat.le_refl _)
        have hm := T9.hm.below (B := wi.heap.size) ((Below.refl _ _).drew) (Nat.le_refl _)
        obtain ⟨e4, en⟩ := hHeld
        have hHeld : (fun w' => w'.cell? ⟨b4, 0, none⟩ = some (.slice ga g.length gc) ∧ w'.cell? ⟨nb, 0, none⟩ = some (.slice qa q.length qc)) wi.drew := ⟨e4, en⟩
        have hP : SlR (fun b => w.heap.size + 2 ≤ b ∧ b < wi.drew.heap.size) wi.drew (.slice qa q.length qc) q := hP.weak (fun b hb => ⟨hb.1, hb.2.2⟩)
        have hws : w.heap.size + 2 ≤ wi.drew.heap.size := (by show _ ≤ wi.heap.size; omega)
        generalize wi.drew = wd at hP hG hx hy hm hHeld e4 en hws ⊢
        refine wpAnyH_take (i := 0) (v := ?v42) (by simp only [List.getElem?_toArray, List.getElem?_cons_zero]; exact rfl) (by kernel_rfl) (by kernel_rfl) (by kernel_rfl) (by intro _ _ _ h; exact h) (Or.inl ⟨by rfl, ?y42⟩) hHeld ?_
        case y42 => (intro w hSw; (try dsimp only at hSw); go_simp; try (with_reducible rfl))
        try simp only [Act.put, List.setIfInBounds_toArray, List.set_cons_zero, List.set_cons_succ]
        refine wpAnyH_take (i := 1) (v := ?v43) (by simp only [List.getElem?_toArray, List.getElem?_cons_succ, List.getElem?_cons_zero]; exact rfl) (by kernel_rfl) (by kernel_rfl) (by kernel_rfl) (by intro _ _ _ h; exact h) (Or.inl ⟨by rfl, ?y43⟩) hHeld ?_
        case y43 => (intro w hSw; (try dsimp only at hSw); go_simp; try (with_reducible rfl))
        try simp only [Act.put, List.setIfInBounds_toArray, List.set_cons_zero, List.set_cons_succ]
        refine wpAnyH_ready (rs := [2]) (by kernel_rfl) (by simp) ?_
        refine AllReadyH.cons (by simp only [List.getElem?_toArray, List.getElem?_cons_succ, List.getElem?_cons_zero]; exact rfl) (fun K hK => ?_) AllReadyH.nil
        obtain ⟨x1, x2, -, -⟩ := own_cell hx
        go_simp
        have hk : ∀ b, b ≠ w.heap.size → (wd.setCell ⟨w.heap.size, 0, none⟩ (.slice qa q.length qc)).heap[b]? = wd.heap[b]? := fun b hb => Below.heap_setCell _ _ _ _ (by simpa using hb)
        replace hP := hP.keep (fun b hb => hk b (by omega))
        replace hG := hG.keep (fun b hb => hk b (by omega))
        replace hx := own_set hx (.slice qa q.length qc)
        replace hy := own1_keep hy (hk _ (by omega))
        replace hm := hm.base ((Below.refl _ _).setCell (p := ⟨w.heap.size, 0, none⟩) (by simp) (.slice qa q.length qc)) hdl
        replace e4 := (World.cell?_of_block (a := ⟨b4, 0, none⟩) (hk b4 (by omega))).trans e4
        replace en := (World.cell?_of_block (a := ⟨nb, 0, none⟩) (hk nb (by omega))).trans en
        have hws' : w.heap.size + 2 ≤ (wd.setCell ⟨w.heap.size, 0, none⟩ (.slice qa q.length qc)).heap.size := (by simpa using hws)
        replace hP := hP.weak (S' := fun b => w.heap.size + 2 ≤ b ∧ b < (wd.setCell ⟨w.heap.size, 0, none⟩ (.slice qa q.length qc)).heap.size) (fun b hb => ⟨hb.1, by simpa using hb.2⟩)
        clear x1 x2 hk hws
        have hws := hws'
        clear hws'
        generalize wd.setCell ⟨w.heap.size, 0, none⟩ (.slice qa q.length qc) = wn at *
        obtain ⟨wd, rfl⟩ : ∃ wx : World, wx = wn := ⟨_, rfl⟩
        try dsimp only
        refine hK.out _ _ ?h45 (fun hHeld => ?_)
        case h45 => first | exact ⟨‹_›, ‹_›⟩ | assumption | (simp [*, go_sem])
        clear hK K
        try simp only [Act.put, List.setIfInBounds_toArray, List.set_cons_zero, List.set_cons_succ]
        refine wpAnyH_ready (rs := [3]) (by kernel_rfl) (by simp) ?_
        refine AllReadyH.cons (by simp only [List.getElem?_toArray, List.getElem?_cons_succ, List.getElem?_cons_zero]; exact rfl) (fun K hK => ?_) AllReadyH.nil
        obtain ⟨x1, x2, -, -⟩ := own_cell hy
        go_simp
        have hk : ∀ b, b ≠ w.heap.size + 1 → (wd.setCell ⟨w.heap.size + 1, 0, none⟩ (.slice ga g.length gc)).heap[b]? = wd.heap[b]? := fun b hb => Below.heap_setCell _ _ _ _ (by simpa using hb)
        replace hP := hP.keep (fun b hb => hk b (by omega))
        replace hG := hG.keep (fun b hb => hk b (by omega))
        replace hy := own_set hy (.slice ga g.length gc)
        replace hx := own1_keep hx (hk _ (by omega))
        replace hm := hm.base ((Below.refl _ _).setCell (p := ⟨w.heap.size + 1, 0, none⟩) (by simp) (.slice ga g.length gc)) hdl
        replace e4 := (World.cell?_of_block (a := ⟨b4, 0, none⟩) (hk b4 (by omega))).trans e4
        replace en := (World.cell?_of_block (a := ⟨nb, 0, none⟩) (hk nb (by omega))).trans en
        have hws' : w.heap.size + 2 ≤ (wd.setCell ⟨w.heap.size + 1, 0, none⟩ (.slice ga g.length gc)).heap.size := (by simpa using hws)
        replace hP := hP.weak (S' := fun b => w.heap.size + 2 ≤ b ∧ b < (wd.setCell ⟨w.heap.size + 1, 0, none⟩ (.slice ga g.length gc)).heap.size) (fun b hb => ⟨hb.1, by simpa using hb.2⟩)
        clear x1 x2 hk hws
        have hws := hws'
        clear hws'
        generalize wd.setCell ⟨w.heap.size + 1, 0, none⟩ (.slice ga g.length gc) = wn at *
        obtain ⟨wd, rfl⟩ : ∃ wx : World, wx = wn := ⟨_, rfl⟩
        try dsimp only
        refine hK.out _ _ ?h47 (fun hHeld => ?_)
        case h47 => first | exact ⟨‹_›, ‹_›⟩ | assumption | (simp [*, go_sem])
        clear hK K
        try simp only [Act.put, List.setIfInBounds_toArray, List.set_cons_zero, List.set_cons_succ]
        refine wpAnyH_done (by kernel_rfl) ?_ _
        obtain ⟨k1, -, -, -⟩ := own_cell hx
        obtain ⟨k2, -, -, -⟩ := own_cell hy
        have hWs := cell_lt en
        go_wp2
        refine bodyPost_ret (v := .tuple #[.agg #[.slice qa q.length qc], .agg #[.slice ga g.length gc]]) (by simp [results, Try.results46, go_sem, k1, k2]) rfl ⟨_, q, _, g, rfl, hP.weak (fun b hb => ⟨by omega, hb.2⟩), hG.weak (fun b hb => ⟨by omega, by have : nb < wd.heap.size := hWs; omega⟩), hm⟩
    | true =>
      go_wp2_with fail
      refine (l1Once_any (n := 2) T.hm.1 hl (by omega)).mono ?_
      rintro e wb ⟨b2, rfl, hmb⟩
      replace T := T.mv hmb
      cases b2 with
      | true =>
        have hnb5 := T.nb
        go_wp2_with fail
        refine (l1Below_any (n := 4) T.hm.1 hl (by omega)).mono ?_
        rintro e wg ⟨r, rfl, hr4, -, hmg⟩
        replace T := T.mv hmg
        replace hr4 := hr4 (by omega)
        have hr5 : (1 : Int) + (r : Int) = ((1 + r : Nat) : Int) := by omega
        have hof := l1DrawOf_any (n := 1 + r) T.hm.1 hl (by omega) (by omega)
        rw [← hr5] at hof
        clear hr5
        go_wp2_with fail
        refine hof.mono ?_
        rintro e wh ⟨uz, z, rfl, hz, hzg, -, hmh⟩
        replace T := T.mv hmh
        have hsz := hmg.size
        have hzv := hz.rows (gok_small hzg)
        obtain ⟨za, zc, rfl⟩ := hzv.slice
        obtain ⟨o1, o2, -, -⟩ := own_cell T.ho
        replace T := T.put (hzv.weak fun b hb => ⟨by omega, hb.2⟩)
        clear hof hmg hmh hz hzg hzv
        go_wp2_with fail
        refine (l1Once_any (n := 15) T.hm.1 hl (by omega)).mono ?_
        rintro e we ⟨b15, rfl, hme⟩
        replace T := T.mv hme
        cases b15 with
        | false =>
          obtain ⟨n1, -, -, -⟩ := own_cell T.ho
          have n4 := T.c4
          have T9 := T
          have hnb9 := T.nb
          have hb49 := T.hb4
          have hws9 := T.hm.size
          clear T
          go_wp2
          obtain ⟨wi, rfl⟩ : ∃ wx : World, wx = we := ⟨_, rfl⟩
          refine wp_region_held_drew (S := (fun w' => w'.cell? ⟨b4, 0, none⟩ = some (.slice ga g.length gc) ∧ w'.cell? ⟨nb, 0, none⟩ = some (.slice za z.length zc))) (by kernel_rfl) ?_ (fun hHeld => ?_)
          · first | exact ⟨‹_›, ‹_›⟩ | assumption | (simp [*, go_sem])
          have hP := T9.hP.drew
          have hG := T9.hG.drew
          have hx := T9.hx.below (B1 := wi.heap.size) ((Below.refl _ _).drew) (Nat.le_refl _)
          have hy := T9.hy.below (B1 := wi.heap.size) ((Below.refl _ _).drew) (Nat.le_refl _)
          have hm := T9.hm.below (B := wi.heap.size) ((Below.refl _ _).drew) (Nat.le_refl _)
          obtain ⟨e4, en⟩ := hHeld
          have hHeld : (fun w' => w'.cell? ⟨b4, 0, none⟩ = some (.slice ga g.length gc) ∧ w'.cell? ⟨nb, 0, none⟩ = some (.slice za z.length zc)) wi.drew := ⟨e4, en⟩
          have hP : SlR (fun b => w.heap.size + 2 ≤ b ∧ b < wi.drew.heap.size) wi.drew (.slice za z.length zc) z := hP.weak (fun b hb => ⟨hb.1, hb.2.2⟩)
          have hws : w.heap.size + 2 ≤ wi.drew.heap.size := (by show _ ≤ wi.heap.size; omega)
          generalize wi.drew = wd at hP hG hx hy hm hHeld e4 en hws ⊢
          refine wpAnyH_take (i := 0) (v := ?v48) (by simp only [List.getElem?_toArray, List.getElem?_cons_zero]; exact rfl) (by kernel_rfl) (by kernel_rfl) (by kernel_rfl) (by intro _ _ _ h; exact h) (Or.inl ⟨by rfl, ?y48⟩) hHeld ?_
          case y48 => (intro w hSw; (try dsimp only at hSw); go_simp; try (with_reducible rfl))
          try simp only [Act.put, List.setIfInBounds_toArray, List.set_cons_zero, List.set_cons_succ]
          refine wpAnyH_take (i := 1) (v := ?v49) (by simp only [List.getElem?_toArray, List.getElem?_cons_succ, List.getElem?_cons_zero]; exact rfl) (by kernel_rfl) (by kernel_rfl) (by kernel_rfl) (by intro _ _ _ h; exact h) (Or.inl ⟨by rfl, ?y49⟩) hHeld ?_
          case y49 => (intro w hSw; (try dsimp only at hSw); go_simp; try (with_reducible rfl))
          try simp only [Act.put, List.setIfInBounds_toArray, List.set_cons_zero, List.set_cons_succ]
          refine wpAnyH_ready (rs := [2]) (by kernel_rfl) (by simp) ?_
          refine AllReadyH.cons (by simp only [List.getElem?_toArray, List.getElem?_cons_succ, List.getElem?_cons_zero]; exact rfl) (fun K hK => ?_) AllReadyH.nil
          obtain ⟨x1, x2, -, -⟩ := own_cell hx
          go_simp
          have hk : ∀ b, b ≠ w.heap.size → (wd.setCell ⟨w.heap.size, 0, none⟩ (.slice za z.length zc)).heap[b]? = wd.heap[b]? := fun b hb => Below.heap_setCell _ _ _ _ (by simpa using hb)
          replace hP := hP.keep (fun b hb => hk b (by omega))
          replace hG := hG.keep (fun b hb => hk b (by omega))
          replace hx := own_set hx (.slice za z.length zc)
          replace hy := own1_keep hy (hk _ (by omega))
          replace hm := hm.base ((Below.refl _ _).setCell (p := ⟨w.heap.size, 0, none⟩) (by simp) (.slice za z.length zc)) hdl
          replace e4 := (World.cell?_of_block (a := ⟨b4, 0, none⟩) (hk b4 (by omega))).trans e4
          replace en := (World.cell?_of_block (a := ⟨nb, 0, none⟩) (hk nb (by omega))).trans en
          have hws' : w.heap.size + 2 ≤ (wd.setCell ⟨w.heap.size, 0, none⟩ (.slice za z.length zc)).heap.size := (by simpa using hws)
          replace hP := hP.weak (S' := fun b => w.heap.size + 2 ≤ b ∧ b < (wd.setCell ⟨w.heap.size, 0, none⟩ (.slice za z.length zc)).heap.size) (fun b hb => ⟨hb.1, by simpa using hb.2⟩)
          clear x1 x2 hk hws
          have hws := hws'
          clear hws'
          generalize wd.setCell ⟨w.heap.size, 0, none⟩ (.slice za z.length zc) = wn at *
          obtain ⟨wd, rfl⟩ : ∃ wx : World, wx = wn := ⟨_, rfl⟩
          try dsimp only
          refine hK.out _ _ ?h51 (fun hHeld => ?_)
          case h51 => first | exact ⟨‹_›, ‹_›⟩ | assumption | (simp [*, go_sem])
          clear hK K
          try simp only [Act.put, List.setIfInBounds_toArray, List.set_cons_zero, List.set_cons_succ]
          refine wpAnyH_ready (rs := [3]) (by kernel_rfl) (by simp) ?_
          refine AllReadyH.cons (by simp only [List.getElem?_toArray, List.getElem?_cons_succ, List.getElem?_cons_zero]; exact rfl) (fun K hK => ?_) AllReadyH.nil
          obtain ⟨x1, x2, -, -⟩ := own_cell hy
          go_simp
          have hk : ∀ b, b ≠ w.heap.size + 1 → (wd.setCell ⟨w.heap.size + 1, 0, none⟩ (.slice ga g.length gc)).heap[b]? = wd.heap[b]? := fun b hb => Below.heap_setCell _ _ _ _ (by simpa using hb)
          replace hP := hP.keep (fun b hb => hk b (by omega))
          replace hG := hG.keep (fun b hb => hk b (by omega))
          replace hy := own_set hy (.slice ga g.length gc)
          replace hx := own1_keep hx (hk _ (by omega))
          replace hm := hm.base ((Below.refl _ _).setCell (p := ⟨w.heap.size + 1, 0, none⟩) (by simp) (.slice ga g.length gc)) hdl
          replace e4 := (World.cell?_of_block (a := ⟨b4, 0, none⟩) (hk b4 (by omega))).trans e4
          replace en := (World.cell?_of_block (a := ⟨nb, 0, none⟩) (hk nb (by omega))).trans en
          have hws' : w.heap.size + 2 ≤ (wd.setCell ⟨w.heap.size + 1, 0, none⟩ (.slice ga g.length gc)).heap.size := (by simpa using hws)
          replace hP := hP.weak (S' := fun b => w.heap.size + 2 ≤ b ∧ b < (wd.setCell ⟨w.heap.size + 1, 0, none⟩ (.slice ga g.length gc)).heap.size) (fun b hb => ⟨hb.1, by simpa using hb.2⟩)
          clear x1 x2 hk hws
          have hws := hws'
          clear hws'
          generalize wd.setCell ⟨w.heap.size + 1, 0, none⟩ (.slice ga g.length gc) = wn at *
          obtain ⟨wd, rfl⟩ : ∃ wx : World, wx = wn := ⟨_, rfl⟩
          try dsimp only
          refine hK.out _ _ ?h53 (fun hHeld => ?_)
          case h53 => first | exact ⟨‹_›, ‹_›⟩ | assumption | (simp [*, go_sem])
          clear hK K
          try simp only [Act.put, List.setIfInBounds_toArray, List.set_cons_zero, List.set_cons_succ]
          refine wpAnyH_done (by kernel_rfl) ?_ _
          obtain ⟨k1, -, -, -⟩ := own_cell hx
          obtain ⟨k2, -, -, -⟩ := own_cell hy
          have hWs := cell_lt en
          go_wp2
          refine bodyPost_ret (v := .tuple #[.agg #[.slice za z.length zc], .agg #[.slice ga g.length gc]]) (by simp [results, Try.results46, go_sem, k1, k2]) rfl ⟨_, z, _, g, rfl, hP.weak (fun b hb => ⟨by omega, hb.2⟩), hG.weak (fun b hb => ⟨by omega, by have : nb < wd.heap.size := hWs; omega⟩), hm⟩
        | true =>
          have hnb7 := T.nb
          go_wp2_with fail
          refine (l4Draw_any T.hm.1 hl).mono ?_
          rintro e wf ⟨uq, q, rfl, hq, -, -, hmf⟩
          replace T := T.mv hmf
          obtain ⟨qa, qc, rfl⟩ := hq.slice
          obtain ⟨o1, o2, -, -⟩ := own_cell T.ho
          replace T := T.put (hq.weak fun b hb => ⟨by omega, hb.2⟩)
          clear hmf hq hme
          obtain ⟨n1, -, -, -⟩ := own_cell T.ho
          have n4 := T.c4
          have T9 := T
          have hnb9 := T.nb
          have hb49 := T.hb4
          have hws9 := T.hm.size
          clear T
          go_wp2
          generalize hW9 : (wf.setCell ⟨nb, 0, none⟩ (.slice qa q.length qc)) = wi at *
          refine wp_region_held_drew (S := (fun w' => w'.cell? ⟨b4, 0, none⟩ = some (.slice ga g.length gc) ∧ w'.cell? ⟨nb, 0, none⟩ = some (.slice qa q.length qc))) (by kernel_rfl) ?_ (fun hHeld => ?_)
          · first | exact ⟨‹_›, ‹_›⟩ | assumption | (simp [*, go_sem])
          have hP := T9.hP.drew
          have hG := T9.hG.drew
          have hx := T9.hx.below (B1 := wi.heap.size) ((Below.refl _ _).drew) (Nat.le_refl _)
          have hy := T9.hy.below (B1 := wi.heap.size) ((Below.refl _ _).drew) (Nat.le_refl _)
          have hm := T9.hm.below (B := wi.heap.size) ((Below.refl _ _).drew) (Nat.le_refl _)
          obtain ⟨e4, en⟩ := hHeld
          have hHeld : (fun w' => w'.cell? ⟨b4, 0, none⟩ = some (.slice ga g.length gc) ∧ w'.cell? ⟨nb, 0, none⟩ = some (.slice qa q.length qc)) wi.drew := ⟨e4, en⟩
          have hP : SlR (fun b => w.heap.size + 2 ≤ b ∧ b < wi.drew.heap.size) wi.drew (.slice qa q.length qc) q := hP.weak (fun b hb => ⟨hb.1, hb.2.2⟩)
          have hws : w.heap.size + 2 ≤ wi.drew.heap.size := (by show _ ≤ wi.heap.size; omega)
          generalize wi.drew = wd at hP hG hx hy hm hHeld e4 en hws ⊢
          refine wpAnyH_take (i := 0) (v := ?v54) (by simp only [List.getElem?_toArray, List.getElem?_cons_zero]; exact rfl) (by kernel_rfl) (by kernel_rfl) (by kernel_rfl) (by intro _ _ _ h; exact h) (Or.inl ⟨by rfl, ?y54⟩) hHeld ?_
          case y54 => (intro w hSw; (try dsimp only at hSw); go_simp; try (with_reducible rfl))
          try simp only [Act.put, List.setIfInBounds_toArray, List.set_cons_zero, List.set_cons_succ]
          refine wpAnyH_take (i := 1) (v := ?v55) (by simp only [List.getElem?_toArray, List.getElem?_cons_succ, List.getElem?_cons_zero]; exact rfl) (by kernel_rfl) (by kernel_rfl) (by kernel_rfl) (by intro _ _ _ h; exact h) (Or.inl ⟨by rfl, ?y55⟩) hHeld ?_
          case y55 => (intro w hSw; (try dsimp only at hSw); go_simp; try (with_reducible rfl))
          try simp only [Act.put, List.setIfInBounds_toArray, List.set_cons_zero, List.set_cons_succ]
          refine wpAnyH_ready (rs := [2]) (by kernel_rfl) (by simp) ?_
          refine AllReadyH.cons (by simp only [List.getElem?_toArray, List.getElem?_cons_succ, List.getElem?_cons_zero]; exact rfl) (fun K hK => ?_) AllReadyH.nil
          obtain ⟨x1, x2, -, -⟩ := own_cell hx
          go_simp
          have hk : ∀ b, b ≠ w.heap.size → (wd.setCell ⟨w.heap.size, 0, none⟩ (.slice qa q.length qc)).heap[b]? = wd.heap[b]? := fun b hb => Below.heap_setCell _ _ _ _ (by simpa using hb)
          replace hP := hP.keep (fun b hb => hk b (by omega))
          replace hG := hG.keep (fun b hb => hk b (by omega))
          replace hx := own_set hx (.slice qa q.length qc)
          replace hy := own1_keep hy (hk _ (by omega))
          replace hm := hm.base ((Below.refl _ _).setCell (p := ⟨w.heap.size, 0, none⟩) (by simp) (.slice qa q.length qc)) hdl
          replace e4 := (World.cell?_of_block (a := ⟨b4, 0, none⟩) (hk b4 (by omega))).trans e4
          replace en := (World.cell?_of_block (a := ⟨nb, 0, none⟩) (hk nb (by omega))).trans en
          have hws' : w.heap.size + 2 ≤ (wd.setCell ⟨w.heap.size, 0, none⟩ (.slice qa q.length qc)).heap.size := (by simpa using hws)
          replace hP := hP.weak (S' := fun b => w.heap.size + 2 ≤ b ∧ b < (wd.setCell ⟨w.heap.size, 0, none⟩ (.slice qa q.length qc)).heap.size) (fun b hb => ⟨hb.1, by simpa using hb.2⟩)
          clear x1 x2 hk hws
          have hws := hws'
          clear hws'
          generalize wd.setCell ⟨w.heap.size, 0, none⟩ (.slice qa q.length qc) = wn at *
          obtain ⟨wd, rfl⟩ : ∃ wx : World, wx = wn := ⟨_, rfl⟩
          try dsimp only
          refine hK.out _ _ ?h57 (fun hHeld => ?_)
          case h57 => first | exact ⟨‹_›, ‹_›⟩ | assumption | (simp [*, go_sem])
          clear hK K
          try simp only [Act.put, List.setIfInBounds_toArray, List.set_cons_zero, List.set_cons_succ]
          refine wpAnyH_ready (rs := [3]) (by kernel_rfl) (by simp) ?_
          refine AllReadyH.cons (by simp only [List.getElem?_toArray, List.getElem?_cons_succ, List.getElem?_cons_zero]; exact rfl) (fun K hK => ?_) AllReadyH.nil
          obtain ⟨x1, x2, -, -⟩ := own_cell hy
          go_simp
          have hk : ∀ b, b ≠ w.heap.size + 1 → (wd.setCell ⟨w.heap.size + 1, 0, none⟩ (.slice ga g.length gc)).heap[b]? = wd.heap[b]? := fun b hb => Below.heap_setCell _ _ _ _ (by simpa using hb)
          replace hP := hP.keep (fun b hb => hk b (by omega))
          replace hG := hG.keep (fun b hb => hk b (by omega))
          replace hy := own_set hy (.slice ga g.length gc)
          replace hx := own1_keep hx (hk _ (by omega))
          replace hm := hm.base ((Below.refl _ _).setCell (p := ⟨w.heap.size + 1, 0, none⟩) (by simp) (.slice ga g.length gc)) hdl
          replace e4 := (World.cell?_of_block (a := ⟨b4, 0, none⟩) (hk b4 (by omega))).trans e4
          replace en := (World.cell?_of_block (a := ⟨nb, 0, none⟩) (hk nb (by omega))).trans en
          have hws' : w.heap.size + 2 ≤ (wd.setCell ⟨w.heap.size + 1, 0, none⟩ (.slice ga g.length gc)).heap.size := (by simpa using hws)
          replace hP := hP.weak (S' := fun b => w.heap.size + 2 ≤ b ∧ b < (wd.setCell ⟨w.heap.size + 1, 0, none⟩ (.slice ga g.length gc)).heap.size) (fun b hb => ⟨hb.1, by simpa using hb.2⟩)
          clear x1 x2 hk hws
          have hws := hws'
          clear hws'
          generalize wd.setCell ⟨w.heap.size + 1, 0, none⟩ (.slice ga g.length gc) = wn at *
          obtain ⟨wd, rfl⟩ : ∃ wx : World, wx = wn := ⟨_, rfl⟩
          try dsimp only
          refine hK.out _ _ ?h59 (fun hHeld => ?_)
          case h59 => first | exact ⟨‹_›, ‹_›⟩ | assumption | (simp [*, go_sem])
          clear hK K
          try simp only [Act.put, List.setIfInBounds_toArray, List.set_cons_zero, List.set_cons_succ]
          refine wpAnyH_done (by kernel_rfl) ?_ _
          obtain ⟨k1, -, -, -⟩ := own_cell hx
          obtain ⟨k2, -, -, -⟩ := own_cell hy
          have hWs := cell_lt en
          go_wp2
          refine bodyPost_ret (v := .tuple #[.agg #[.slice qa q.length qc], .agg #[.slice ga g.length gc]]) (by simp [results, Try.results46, go_sem, k1, k2]) rfl ⟨_, q, _, g, rfl, hP.weak (fun b hb => ⟨by omega, hb.2⟩), hG.weak (fun b hb => ⟨by omega, by have : nb < wd.heap.size := hWs; omega⟩), hm⟩
      | false =>
        go_wp2_with fail
        refine (l1Once_any (n := 15) T.hm.1 hl (by omega)).mono ?_
        rintro e we ⟨b15, rfl, hme⟩
        replace T := T.mv hme
        cases b15 with
        | false =>
          obtain ⟨n1, -, -, -⟩ := own_cell T.ho
          have n4 := T.c4
          have T9 := T
          have hnb9 := T.nb
          have hb49 := T.hb4
          have hws9 := T.hm.size
          clear T
          go_wp2
          obtain ⟨wi, rfl⟩ : ∃ wx : World, wx = we := ⟨_, rfl⟩
          refine wp_region_held_drew (S := (fun w' => w'.cell? ⟨b4, 0, none⟩ = some (.slice ga g.length gc) ∧ w'.cell? ⟨nb, 0, none⟩ = some (.slice pa p.length pc))) (by kernel_rfl) ?_ (fun hHeld => ?_)
          · first | exact ⟨‹_›, ‹_›⟩ | assumption | (simp [*, go_sem])
          have hP := T9.hP.drew
          have hG := T9.hG.drew
          have hx := T9.hx.below (B1 := wi.heap.size) ((Below.refl _ _).drew) (Nat.le_refl _)
          have hy := T9.hy.below (B1 := wi.heap.size) ((Below.refl _ _).drew) (Nat.le_refl _)
          have hm := T9.hm.below (B := wi.heap.size) ((Below.refl _ _).drew) (Nat.le_refl _)
          obtain ⟨e4, en⟩ := hHeld
          have hHeld : (fun w' => w'.cell? ⟨b4, 0, none⟩ = some (.slice ga g.length gc) ∧ w'.cell? ⟨nb, 0, none⟩ = some (.slice pa p.length pc)) wi.drew := ⟨e4, en⟩
          have hP : SlR (fun b => w.heap.size + 2 ≤ b ∧ b < wi.drew.heap.size) wi.drew (.slice pa p.length pc) p := hP.weak (fun b hb => ⟨hb.1, hb.2.2⟩)
          have hws : w.heap.size + 2 ≤ wi.drew.heap.size := (by show _ ≤ wi.heap.size; omega)
          generalize wi.drew = wd at hP hG hx hy hm hHeld e4 en hws ⊢
          refine wpAnyH_take (i := 0) (v := ?v60) (by simp only [List.getElem?_toArray, List.getElem?_cons_zero]; exact rfl) (by kernel_rfl) (by kernel_rfl) (by kernel_rfl) (by intro _ _ _ h; exact h) (Or.inl ⟨by rfl, ?y60⟩) hHeld ?_
          case y60 => (intro w hSw; (try dsimp only at hSw); go_simp; try (with_reducible rfl))
          try simp only [Act.put, List.setIfInBounds_toArray, List.set_cons_zero, List.set_cons_succ]
          refine wpAnyH_take (i := 1) (v := ?v61) (by simp only [List.getElem?_toArray, List.getElem?_cons_succ, List.getElem?_cons_zero]; exact rfl) (by kernel_rfl) (by kernel_rfl) (by kernel_rfl) (by intro _ _ _ h; exact h) (Or.inl ⟨by rfl, ?y61⟩) hHeld ?_
          case y61 => (intro w hSw; (try dsimp only at hSw); go_simp; try (with_reducible rfl))
          try simp only [Act.put, List.setIfInBounds_toArray, List.set_cons_zero, List.set_cons_succ]
          refine wpAnyH_ready (rs := [2]) (by kernel_rfl) (by simp) ?_
          refine AllReadyH.cons (by simp only [List.getElem?_toArray, List.getElem?_cons_succ, List.getElem?_cons_zero]; exact rfl) (fun K hK => ?_) AllReadyH.nil
          obtain ⟨x1, x2, -, -⟩ := own_cell hx
          go_simp
          have hk : ∀ b, b ≠ w.heap.size → (wd.setCell ⟨w.heap.size, 0, none⟩ (.slice pa p.length pc)).heap[b]? = wd.heap[b]? := fun b hb => Below.heap_setCell _ _ _ _ (by simpa using hb)
          replace hP := hP.keep (fun b hb => hk b (by omega))
          replace hG := hG.keep (fun b hb => hk b (by omega))
          replace hx := own_set hx (.slice pa p.length pc)
          replace hy := own1_keep hy (hk _ (by omega))
          replace hm := hm.base ((Below.refl _ _).setCell (p := ⟨w.heap.size, 0, none⟩) (by simp) (.slice pa p.length pc)) hdl
          replace e4 := (World.cell?_of_block (a := ⟨b4, 0, none⟩) (hk b4 (by omega))).trans e4
          replace en := (World.cell?_of_block (a := ⟨nb, 0, none⟩) (hk nb (by omega))).trans en
          have hws' : w.heap.size + 2 ≤ (wd.setCell ⟨w.heap.size, 0, none⟩ (.slice pa p.length pc)).heap.size := (by simpa using hws)
          replace hP := hP.weak (S' := fun b => w.heap.size + 2 ≤ b ∧ b < (wd.setCell ⟨w.heap.size, 0, none⟩ (.slice pa p.length pc)).heap.size) (fun b hb => ⟨hb.1, by simpa using hb.2⟩)
          clear x1 x2 hk hws
          have hws := hws'
          clear hws'
          generalize wd.setCell ⟨w.heap.size, 0, none⟩ (.slice pa p.length pc) = wn at *
          obtain ⟨wd, rfl⟩ : ∃ wx : World, wx = wn := ⟨_, rfl⟩
          try dsimp only
          refine hK.out _ _ ?h63 (fun hHeld => ?_)
          case h63 => first | exact ⟨‹_›, ‹_›⟩ | assumption | (simp [*, go_sem])
          clear hK K
          try simp only [Act.put, List.setIfInBounds_toArray, List.set_cons_zero, List.set_cons_succ]
          refine wpAnyH_ready (rs := [3]) (by kernel_rfl) (by simp) ?_
          refine AllReadyH.cons (by simp only [List.getElem?_toArray, List.getElem?_cons_succ, List.getElem?_cons_zero]; exact rfl) (fun K hK => ?_) AllReadyH.nil
          obtain ⟨x1, x2, -, -⟩ := own_cell hy
          go_simp
          have hk : ∀ b, b ≠ w.heap.size + 1 → (wd.setCell ⟨w.heap.size + 1, 0, none⟩ (.slice ga g.length gc)).heap[b]? = wd.heap[b]? := fun b hb => Below.heap_setCell _ _ _ _ (by simpa using hb)
          replace hP := hP.keep (fun b hb => hk b (by omega))
          replace hG := hG.keep (fun b hb => hk b (by omega))
          replace hy := own_set hy (.slice ga g.length gc)
          replace hx := own1_keep hx (hk _ (by omega))
          replace hm := hm.base ((Below.refl _ _).setCell (p := ⟨w.heap.size + 1, 0, none⟩) (by simp) (.slice ga g.length gc)) hdl
          replace e4 := (World.cell?_of_block (a := ⟨b4, 0, none⟩) (hk b4 (by omega))).trans e4
          replace en := (World.cell?_of_block (a := ⟨nb, 0, none⟩) (hk nb (by omega))).trans en
          have hws' : w.heap.size + 2 ≤ (wd.setCell ⟨w.heap.size + 1, 0, none⟩ (.slice ga g.length gc)).heap.size := (by simpa using hws)
          replace hP := hP.weak (S' := fun b => w.heap.size + 2 ≤ b ∧ b < (wd.setCell ⟨w.heap.size + 1, 0, none⟩ (.slice ga g.length gc)).heap.size) (fun b hb => ⟨hb.1, by simpa using hb.2⟩)
          clear x1 x2 hk hws
          have hws := hws'
          clear hws'
          generalize wd.setCell ⟨w.heap.size + 1, 0, none⟩ (.slice ga g.length gc) = wn at *
          obtain ⟨wd, rfl⟩ : ∃ wx : World, wx = wn := ⟨_, rfl⟩
          try dsimp only
          refine hK.out _ _ ?h65 (fun hHeld => ?_)
          case h65 => first | exact ⟨‹_›, ‹_›⟩ | assumption | (simp [*, go_sem])
          clear hK K
          try simp only [Act.put, List.setIfInBounds_toArray, List.set_cons_zero, List.set_cons_succ]
          refine wpAnyH_done (by kernel_rfl) ?_ _
          obtain ⟨k1, -, -, -⟩ := own_cell hx
          obtain ⟨k2, -, -, -⟩ := own_cell hy
          have hWs := cell_lt en
          go_wp2
          refine bodyPost_ret (v := .tuple #[.agg #[.slice pa p.length pc], .agg #[.slice ga g.length gc]]) (by simp [results, Try.results46, go_sem, k1, k2]) rfl ⟨_, p, _, g, rfl, hP.weak (fun b hb => ⟨by omega, hb.2⟩), hG.weak (fun b hb => ⟨by omega, by have : nb < wd.heap.size := hWs; omega⟩), hm⟩
        | true =>
          have hnb7 := T.nb
          go_wp2_with fail
          refine (l4Draw_any T.hm.1 hl).mono ?_
          rintro e wf ⟨uq, q, rfl, hq, -, -, hmf⟩
          replace T := T.mv hmf
          obtain ⟨qa, qc, rfl⟩ := hq.slice
          obtain ⟨o1, o2, -, -⟩ := own_cell T.ho
          replace T := T.put (hq.weak fun b hb => ⟨by omega, hb.2⟩)
          clear hmf hq hme
          obtain ⟨n1, -, -, -⟩ := own_cell T.ho
          have n4 := T.c4
          have T9 := T
          have hnb9 := T.nb
          have hb49 := T.hb4
          have hws9 := T.hm.size
          clear T
          go_wp2
          generalize hW9 : (wf.setCell ⟨nb, 0, none⟩ (.slice qa q.length qc)) = wi at *
          refine wp_region_held_drew (S := (fun w' => w'.cell? ⟨b4, 0, none⟩ = some (.slice ga g.length gc) ∧ w'.cell? ⟨nb, 0, none⟩ = some (.slice qa q.length qc))) (by kernel_rfl) ?_ (fun hHeld => ?_)
          · first | exact ⟨‹_›, ‹_›⟩ | assumption | (simp [*, go_sem])
          have hP := T9.hP.drew
          have hG := T9.hG.drew
          have hx := T9.hx.below (B1 := wi.heap.size) ((Below.refl _ _).drew) (Nat.le_refl _)
          have hy := T9.hy.below (B1 := wi.heap.size) ((Below.refl _ _).drew) (Nat.le_refl _)
          have hm := T9.hm.below (B := wi.heap.size) ((Below.refl _ _).drew) (Nat.le_refl _)
          obtain ⟨e4, en⟩ := hHeld
          have hHeld : (fun w' => w'.cell? ⟨b4, 0, none⟩ = some (.slice ga g.length gc) ∧ w'.cell? ⟨nb, 0, none⟩ = some (.slice qa q.length qc)) wi.drew := ⟨e4, en⟩
          have hP : SlR (fun b => w.heap.size + 2 ≤ b ∧ b < wi.drew.heap.size) wi.drew (.slice qa q.length qc) q := hP.weak (fun b hb => ⟨hb.1, hb.2.2⟩)
          have hws : w.heap.size + 2 ≤ wi.drew.heap.size := (by show _ ≤ wi.heap.size; omega)
          generalize wi.drew = wd at hP hG hx hy hm hHeld e4 en hws ⊢
          refine wpAnyH_take (i := 0) (v := ?v66) (by simp only [List.getElem?_toArray, List.getElem?_cons_zero]; exact rfl) (by kernel_rfl) (by kernel_rfl) (by kernel_rfl) (by intro _ _ _ h; exact h) (Or.inl ⟨by rfl, ?y66⟩) hHeld ?_
          case y66 => (intro w hSw; (try dsimp only at hSw); go_simp; try (with_reducible rfl))
          try simp only [Act.put, List.setIfInBounds_toArray, List.set_cons_zero, List.set_cons_succ]
          refine wpAnyH_take (i := 1) (v := ?v67) (by simp only [List.getElem?_toArray, List.getElem?_cons_succ, List.getElem?_cons_zero]; exact rfl) (by kernel_rfl) (by kernel_rfl) (by kernel_rfl) (by intro _ _ _ h; exact h) (Or.inl ⟨by rfl, ?y67⟩) hHeld ?_
          case y67 => (intro w hSw; (try dsimp only at hSw); go_simp; try (with_reducible rfl))
          try simp only [Act.put, List.setIfInBounds_toArray, List.set_cons_zero, List.set_cons_succ]
          refine wpAnyH_ready (rs := [2]) (by kernel_rfl) (by simp) ?_
          refine AllReadyH.cons (by simp only [List.getElem?_toArray, List.getElem?_cons_succ, List.getElem?_cons_zero]; exact rfl) (fun K hK => ?_) AllReadyH.nil
          obtain ⟨x1, x2, -, -⟩ := own_cell hx
          go_simp
          have hk : ∀ b, b ≠ w.heap.size → (wd.setCell ⟨w.heap.size, 0, none⟩ (.slice qa q.length qc)).heap[b]? = wd.heap[b]? := fun b hb => Below.heap_setCell _ _ _ _ (by simpa using hb)
          replace hP := hP.keep (fun b hb => hk b (by omega))
          replace hG := hG.keep (fun b hb => hk b (by omega))
          replace hx := own_set hx (.slice qa q.length qc)
          replace hy := own1_keep hy (hk _ (by omega))
          replace hm := hm.base ((Below.refl _ _).setCell (p := ⟨w.heap.size, 0, none⟩) (by simp) (.slice qa q.length qc)) hdl
          replace e4 := (World.cell?_of_block (a := ⟨b4, 0, none⟩) (hk b4 (by omega))).trans e4
          replace en := (World.cell?_of_block (a := ⟨nb, 0, none⟩) (hk nb (by omega))).trans en
          have hws' : w.heap.size + 2 ≤ (wd.setCell ⟨w.heap.size, 0, none⟩ (.slice qa q.length qc)).heap.size := (by simpa using hws)
          replace hP := hP.weak (S' := fun b => w.heap.size + 2 ≤ b ∧ b < (wd.setCell ⟨w.heap.size, 0, none⟩ (.slice qa q.length qc)).heap.size) (fun b hb => ⟨hb.1, by simpa using hb.2⟩)
          clear x1 x2 hk hws
          have hws := hws'
          clear hws'
          generalize wd.setCell ⟨w.heap.size, 0, none⟩ (.slice qa q.length qc) = wn at *
          obtain ⟨wd, rfl⟩ : ∃ wx : World, wx = wn := ⟨_, rfl⟩
          try dsimp only
          refine hK.out _ _ ?h69 (fun hHeld => ?_)
          case h69 => first | exact ⟨‹_›, ‹_›⟩ | assumption | (simp [*, go_sem])
          clear hK K
          try simp only [Act.put, List.setIfInBounds_toArray, List.set_cons_zero, List.set_cons_succ]
          refine wpAnyH_ready (rs := [3]) (by kernel_rfl) (by simp) ?_
          refine AllReadyH.cons (by simp only [List.getElem?_toArray, List.getElem?_cons_succ, List.getElem?_cons_zero]; exact rfl) (fun K hK => ?_) AllReadyH.nil
          obtain ⟨x1, x2, -, -⟩ := own_cell hy
          go_simp
          have hk : ∀ b, b ≠ w.heap.size + 1 → (wd.setCell ⟨w.heap.size + 1, 0, none⟩ (.slice ga g.length gc)).heap[b]? = wd.heap[b]? := fun b hb => Below.heap_setCell _ _ _ _ (by simpa using hb)
          replace hP := hP.keep (fun b hb => hk b (by omega))
          replace hG := hG.keep (fun b hb => hk b (by omega))
          replace hy := own_set hy (.slice ga g.length gc)
          replace hx := own1_keep hx (hk _ (by omega))
          replace hm := hm.base ((Below.refl _ _).setCell (p := ⟨w.heap.size + 1, 0, none⟩) (by simp) (.slice ga g.length gc)) hdl
          replace e4 := (World.cell?_of_block (a := ⟨b4, 0, none⟩) (hk b4 (by omega))).trans e4
          replace en := (World.cell?_of_block (a := ⟨nb, 0, none⟩) (hk nb (by omega))).trans en
          have hws' : w.heap.size + 2 ≤ (wd.setCell ⟨w.heap.size + 1, 0, none⟩ (.slice ga g.length gc)).heap.size := (by simpa using hws)
          replace hP := hP.weak (S' := fun b => w.heap.size + 2 ≤ b ∧ b < (wd.setCell ⟨w.heap.size + 1, 0, none⟩ (.slice ga g.length gc)).heap.size) (fun b hb => ⟨hb.1, by simpa using hb.2⟩)
          clear x1 x2 hk hws
          have hws := hws'
          clear hws'
          generalize wd.setCell ⟨w.heap.size + 1, 0, none⟩ (.slice ga g.length gc) = wn at *
          obtain ⟨wd, rfl⟩ : ∃ wx : World, wx = wn := ⟨_, rfl⟩
          try dsimp only
          refine hK.out _ _ ?h71 (fun hHeld => ?_)
          case h71 => first | exact ⟨‹_›, ‹_›⟩ | assumption | (simp [*, go_sem])
          clear hK K
          try simp only [Act.put, List.setIfInBounds_toArray, List.set_cons_zero, List.set_cons_succ]
          refine wpAnyH_done (by kernel_rfl) ?_ _
          obtain ⟨k1, -, -, -⟩ := own_cell hx
          obtain ⟨k2, -, -, -⟩ := own_cell hy
          have hWs := cell_lt en
          go_wp2
          refine bodyPost_ret (v := .tuple #[.agg #[.slice qa q.length qc], .agg #[.slice ga g.length gc]]) (by simp [results, Try.results46, go_sem, k1, k2]) rfl ⟨_, q, _, g, rfl, hP.weak (fun b hb => ⟨by omega, hb.2⟩), hG.weak (fun b hb => ⟨by omega, by have : nb < wd.heap.size := hWs; omega⟩), hm⟩
end Go.Proofs.Ytplohdnakllbiaa
