/- The search for a pattern in a host: contract of its step. -/
import Derived.Test.YtplohdnakllbiaaFitM
import Derived.Test.YtplohdnakllbiaaHeld
namespace Go.Proofs.Ytplohdnakllbiaa
open Go.RowKit

/-- Blocks outside F are as they were. -/
structure Keeps (F : Nat → Prop) (w w' : World) : Prop where
  os : w'.os = w.os
  tape : w'.tape = w.tape
  output : w'.output = w.output
  size : w.heap.size ≤ w'.heap.size
  block : ∀ b, b < w.heap.size → ¬ F b → w'.heap[b]? = w.heap[b]?
theorem Keeps.below {F : Nat → Prop} {w0 w w' : World} {B : Nat} (h : Keeps F w w') (hb : Below B w0 w) (hB : B ≤ w.heap.size) (hF : ∀ b, F b → B ≤ b) : Below B w0 w' :=
  hb.trans ⟨h.os, h.tape, h.output, h.size, fun b hb2 => h.block b (by omega) (fun hf => by have := hF b hf; omega)⟩
variable {σ : Type}
/-- What is called at the end of a path: a function value with one captured variable. -/
structure EachC (P : Program) (N cb B : Nat) (E : TypeId) (St : (Nat → Prop) → σ → World → Prop) (ef : List Nat → σ → σ × Bool) (K : List Nat → Prop := fun _ => True) : Prop where
  call : ∀ (F : Nat → Prop) (s : σ) (pv : Value) (p : List Nat) (w : World), St F s w → Own w B E 1 pv p.length ((natsI p).map (.int .i64)) → (∀ b, pv.ownBlock = some b → ¬ F b) → (∀ b, F b → b < w.heap.size) → B ≤ w.heap.size → p.length ≤ 16 → K p →
    Calls P N #[pv, .pointer (some ⟨cb, 0, none⟩)] w fun e w' => ∃ F' : Nat → Prop, e = .returned (.bool (ef p s).2) ∧ St F' (ef p s).1 w' ∧ (∀ b, F' b → F b ∨ w.heap.size ≤ b) ∧ (∀ b, F' b → b < w'.heap.size) ∧ Keeps F w w'
  ent : ∀ (args : Array Value) (w : World), (callFunc N args).run P w = .ok (.enter N args) w
  keep : ∀ (F : Nat → Prop) (s : σ) (w w' : World), St F s w → (∀ b, F b → w'.heap[b]? = w.heap[b]?) → St F s w'
/-- The search's own memory. -/
def GSt (E FS : TypeId) (St : (Nat → Prop) → σ → World → Prop) (w : World) (B sb : Nat) (hv qv ev : Value) (p : List Nat) (s : σ) : Prop :=
  ∃ (pv : Value) (F : Nat → Prop), Own w B FS 5 (.slice (some ⟨sb, 0, none⟩) 1 1) 1 [hv, qv, pv, .int .u32 (maskN p : Int), ev] ∧ Own w B E 1 pv p.length ((natsI p).map (.int .i64)) ∧ (∀ b, pv.ownBlock = some b → b ≠ sb ∧ ¬ F b) ∧ ¬ F sb ∧ (∀ b, F b → B ≤ b ∧ b < w.heap.size) ∧ St F s w
def GPost (E FS : TypeId) (St : (Nat → Prop) → σ → World → Prop) (w : World) (B sb : Nat) (hv qv ev : Value) (p : List Nat) (r : σ × Bool) (e : Ending) (w' : World) : Prop :=
  e = .returned (.bool r.2) ∧ GSt E FS St w' B sb hv qv ev p r.1 ∧ Below B w w'
theorem row5 {w : World} {B sb : Nat} {FS : TypeId} {a b c d e : Value} (h : Own w B FS 5 (.slice (some ⟨sb, 0, none⟩) 1 1) 1 [a, b, c, d, e]) :
    w.cell? ⟨sb, 0, none⟩ = some a ∧ w.cell? ⟨sb, 1, none⟩ = some b ∧ w.cell? ⟨sb, 2, none⟩ = some c ∧ w.cell? ⟨sb, 3, none⟩ = some d ∧ w.cell? ⟨sb, 4, none⟩ = some e ∧ (∀ j, w.frozen? ⟨sb, j, none⟩ = false) ∧ B ≤ sb ∧ sb < w.heap.size :=
  ⟨World.ownsRow.cellAt h 0 (by omega), World.ownsRow.cellAt h 1 (by omega), World.ownsRow.cellAt h 2 (by omega), World.ownsRow.cellAt h 3 (by omega), World.ownsRow.cellAt h 4 (by omega), fun j => World.ownsRow.frozenAt h j, (h.lt sb rfl).1, (h.lt sb rfl).2⟩
theorem natsI_append (a b : List Nat) : natsI (a ++ b) = natsI a ++ natsI b := by simp [natsI]
theorem SlI.below_lt {w w' : World} {B : Nat} {k : IntKind} {v : Value} {xs : List Int} (h : SlI (fun b => b < B) w k v xs) (hb : Below B w w') : SlI (fun b => b < B) w' k v xs := h.keep fun b hlt => hb.block b hlt
/-- append(s, x), one element of one cell, inside a region that draws its order. -/
theorem opWp_append1 {P : Program} {w : World} {T E : TypeId} {bytes : Nat} {z : Value} (hE : Elem P T E 1 bytes z) {B : Nat}
    {o : Oper} {a : Act} {K : Act → World → Prop} {Q : Exit → Act → World → Prop} (s x : Operand)
    (ho : o.op = .call { callee := .builtin .append, args := #[s, x], argTypes := #[T, T] })
    {v : Value} {n : Nat} {xs : List Value} (hown : Own w B E 1 v n xs) (hs : a.eval s = v) {u : Value} {nb : Nat} (hnb : nb = w.heap.size)
    (hx : a.eval x = .slice (some ⟨nb, 0, none⟩) 1 1) (h1 : u.oneCell' = true)
    (h63 : n + 1 ≤ 1099511627) (hbase : B ≤ w.heap.size)
    (h : ∀ v' w', Own w' B E 1 v' (n + 1) (xs ++ [u]) → KeptBut w w' v.ownBlock → Moved (w.alloc (.cells #[u] E)) v v' → K (a.put o.dst v') w') : o.wp P a (w.alloc (.cells #[u] E)) K Q := by
  subst hnb
  obtain ⟨v', w', hr, h2, h3, h4⟩ := append_run (w := w.alloc (.cells #[u] E)) (ty := o.type) hE v n xs (World.ownsRow.alloc hown _) ⟨w.heap.size, 0, none⟩ 1 1 [u] rfl (fun j u' hj => by
      match j, hj with
      | 0, hj => simp at hj; subst hj; simp [Addr.add])
    (fun u' hu' => by simp at hu'; subst hu'; exact h1) h63 (by simp; omega)
  unfold Oper.wp execOp
  simp only [ho, resolve, invoke, builtin, Sem.run_bind, Sem.run_pure, Result.andThen_ok, List.map_toArray, List.map_cons, List.map_nil, hs, hx, hr]
  exact h v' w' h2 (.alloc h3) h4
theorem opWp_append {P : Program} {w : World} {T E : TypeId} {size bytes : Nat} {z : Value} (hE : Elem P T E size bytes z) {B : Nat}
    {o : Oper} {a : Act} {K : Act → World → Prop} {Q : Exit → Act → World → Prop} (s x : Operand)
    (ho : o.op = .call { callee := .builtin .append, args := #[s, x], argTypes := #[T, T] })
    {v : Value} {n : Nat} {xs : List Value} (hown : Own w B E size v n xs) (hs : a.eval s = v) {ad : Addr} {m c : Nat} {news : List Value}
    (hx : a.eval x = .slice (some ad) m c) (hl : news.length = m * size) (hnews : ∀ j u, news[j]? = some u → w.cell? (ad.add j) = some u) (h1 : ∀ u ∈ news, u.oneCell' = true)
    (h63 : n + m ≤ 1099511627) (hbase : B ≤ w.heap.size)
    (h : ∀ v' w', Own w' B E size v' (n + m) (xs ++ news) → w.grownBy w' v.ownBlock → Moved w v v' → K (a.put o.dst v') w') : o.wp P a w K Q := by
  obtain ⟨v', w', hr, h2, h3, h4⟩ := append_run (ty := o.type) hE v n xs hown ad m c news hl hnews h1 h63 hbase
  unfold Oper.wp execOp
  simp only [ho, resolve, invoke, builtin, Sem.run_bind, Sem.run_pure, Result.andThen_ok, List.map_toArray, List.map_cons, List.map_nil, hs, hx, hr]
  exact h v' w' h2 h3 h4
theorem KeptBut.drawn {w w1 w' : World} {row : Option Nat} (h : KeptBut w1 w' row) (hd : Drawn w w1) : KeptBut w w' row := by
  obtain ⟨m, rfl⟩ := hd; exact h
theorem GSt.drawn {P : Program} {N cb B E' sb : Nat} {E FS : TypeId} {St : (Nat → Prop) → σ → World → Prop} {ef : List Nat → σ → σ × Bool} {K : List Nat → Prop} (HE : EachC P N cb B E St ef K) {w w' : World} {hv qv ev : Value} {p : List Nat} {s : σ}
    (h : GSt E FS St w E' sb hv qv ev p s) (hd : Drawn w w') : GSt E FS St w' E' sb hv qv ev p s := by
  obtain ⟨pv, F, h1, h2, h3, h4, h5, h6⟩ := h
  exact ⟨pv, F, h1.drawn hd, h2.drawn hd, h3, h4, fun b hb => by rw [hd.heap]; exact h5 b hb, HE.keep _ _ _ _ h6 (fun b _ => by rw [hd.heap])⟩
/-- The two stores into the search's memory. -/
theorem GSt.store {P : Program} {N cb B sb : Nat} {E FS : TypeId} {St : (Nat → Prop) → σ → World → Prop} {ef : List Nat → σ → σ × Bool} {K : List Nat → Prop} (HE : EachC P N cb B E St ef K) {w w' : World} {hv qv ev pv pv' : Value} {p' : List Nat} {s : σ} {F : Nat → Prop} {m : Value}
    (hrow : Own w B FS 5 (.slice (some ⟨sb, 0, none⟩) 1 1) 1 [hv, qv, pv, m, ev]) (hown : Own w' B E 1 pv' p'.length ((natsI p').map (.int .i64))) (hpF : ∀ b, pv'.ownBlock = some b → b ≠ sb ∧ ¬ F b) (hFs : ¬ F sb) (hFl : ∀ b, F b → B ≤ b ∧ b < w.heap.size)
    (hst : St F s w) (hk : ∀ b, b = sb ∨ F b → w'.heap[b]? = w.heap[b]?) (hsz : w.heap.size ≤ w'.heap.size) :
    GSt E FS St ((w'.setCell ⟨sb, 2, none⟩ pv').setCell ⟨sb, 3, none⟩ (.int .u32 (maskN p' : Int))) B sb hv qv ev p' s := by
  have hrow1 : Own w' B FS 5 (.slice (some ⟨sb, 0, none⟩) 1 1) 1 [hv, qv, pv, m, ev] := hrow.keep fun k hk2 => hk k (.inl (by simpa [Value.ownBlock] using hk2.symm))
  have hrow2 := (hrow1.stored 2 pv').stored 3 (.int .u32 (maskN p' : Int))
  have hset : ∀ b, b ≠ sb → ((w'.setCell ⟨sb, 2, none⟩ pv').setCell ⟨sb, 3, none⟩ (.int .u32 (maskN p' : Int))).heap[b]? = w'.heap[b]? := fun b hb =>
    (Below.heap_setCell _ _ _ _ (fun e => hb (by simpa [eq_comm] using e))).trans (Below.heap_setCell _ _ _ _ (fun e => hb (by simpa [eq_comm] using e)))
  refine ⟨pv', F, by simpa using hrow2, hown.keep fun k hk2 => hset k (hpF k hk2).1, hpF, hFs, fun b hb => ⟨(hFl b hb).1, ?_⟩, HE.keep _ _ _ _ hst fun b hb => ?_⟩
  · have := (hFl b hb).2; simp; omega
  · exact (hset b (fun e => hFs (e ▸ hb))).trans (hk b (.inr hb))
set_option maxRecDepth 100000 in
set_option maxHeartbeats 8000000 in
theorem grow_any {St : (Nat → Prop) → σ → World → Prop} {ef : List Nat → σ → σ × Bool} {N cb B sb : Nat} {hv qv : Value} {H Q : List Nat} {w0 : World} {K : List Nat → Prop} (HE : EachC Try.prog N cb B 3 St ef K)
    (HR : ∀ (F : Nat → Prop) (s : σ) (w : World), Below B w0 w → St F s w → SlI (fun _ => True) w .u32 hv (natsI H) ∧ SlI (fun _ => True) w .u32 qv (natsI Q))
    (hH16 : H.length ≤ 16) (hQ16 : Q.length ≤ 16) (hHl : ∀ m ∈ H, m < 4294967296) (hQl : ∀ m ∈ Q, m < 4294967296) (hK : ∀ p : List Nat, p.length = Q.length → GP H.length p → K p := by exact fun _ _ _ => trivial) :
    ∀ (d : Nat) (p : List Nat) (s : σ) (w : World), p.length + d = Q.length → GP H.length p → GSt 3 104 St w B sb hv qv (.func (Fn.func N) #[] #[.pointer (some ⟨cb, 0, none⟩)]) p s → B ≤ w.heap.size → Below B w0 w →
      Calls Try.prog 82 #[.pointer (some ⟨sb, 0, none⟩)] w (GPost 3 104 St w B sb hv qv (.func (Fn.func N) #[] #[.pointer (some ⟨cb, 0, none⟩)]) p (srchF H Q ef d p s)) := by
  have HKK := Lib.hid hK
  clear hK
  intro d
  induction d with
  | zero =>
    intro p s w hpd hgp hst hB hw0
    obtain ⟨pv, F, hrow, hown, hpF, hFs, hFl, hst⟩ := hst
    obtain ⟨hvH, hvQ⟩ := HR F s w hw0 hst
    obtain ⟨ha, hc, rfl⟩ := hvH.slice
    obtain ⟨qa, qc, rfl⟩ := hvQ.slice
    obtain ⟨c0, c1, c2, c3, c4, hfz, hsB, hsl⟩ := row5 hrow
    have hpi := hown.ints (xs := natsI p) (by omega)
    obtain ⟨pa, pc, hpe⟩ := hpi.slice
    rw [natsI_len] at hpe
    subst hpe
    have hlq : ((p.length : Int) == ((natsI Q).length : Int)) = true := by rw [natsI_len, beq_iff_eq]; omega
    have hlq2 : (p.length == (natsI Q).length) = true := by rw [natsI_len, beq_iff_eq]; omega
    have HS := Lib.hid (show srchF H Q ef 0 p s = ef p s from rfl)
    go_enter Try.func82, Try.ntmps82
    go_wp2
    refine wp_region_held_drew (S := (fun w' => w'.cell? ⟨sb, 2, none⟩ = some (.slice pa p.length pc) ∧ w'.cell? ⟨sb, 4, none⟩ = some (.func (Fn.func N) #[] #[.pointer (some ⟨cb, 0, none⟩)]))) (by kernel_rfl) ?_ (fun hHeld => ?_)
    · first | exact ⟨‹_›, ‹_›⟩ | assumption | (simp [*, go_sem])
    refine wpAnyH_take (i := 0) (v := ?v1) (by simp only [List.getElem?_toArray, List.getElem?_cons_zero]; exact rfl) (by kernel_rfl) (by kernel_rfl) (by kernel_rfl) (by intro _ _ _ h; exact h) (Or.inl ⟨by rfl, ?y1⟩) hHeld ?_
    case y1 => (intro w hSw; (try dsimp only at hSw); go_simp; try (with_reducible rfl))
    try simp only [Act.put, List.setIfInBounds_toArray, List.set_cons_zero, List.set_cons_succ]
    refine wpAnyH_take (i := 1) (v := ?v2) (by simp only [List.getElem?_toArray, List.getElem?_cons_succ, List.getElem?_cons_zero]; exact rfl) (by kernel_rfl) (by kernel_rfl) (by kernel_rfl) (by intro _ _ _ h; exact h) (Or.inl ⟨by rfl, ?y2⟩) hHeld ?_
    case y2 => (intro w hSw; (try dsimp only at hSw); go_simp; try (with_reducible rfl))
    try simp only [Act.put, List.setIfInBounds_toArray, List.set_cons_zero, List.set_cons_succ]
    refine wpAnyH_take (i := 2) (v := ?v3) (by simp only [List.getElem?_toArray, List.getElem?_cons_succ, List.getElem?_cons_zero]; exact rfl) (by kernel_rfl) (by kernel_rfl) (by kernel_rfl) (by intro _ _ _ h; exact h) (Or.inl ⟨by rfl, ?y3⟩) hHeld ?_
    case y3 => (intro w hSw; (try dsimp only at hSw); go_simp; try (with_reducible rfl))
    try simp only [Act.put, List.setIfInBounds_toArray, List.set_cons_zero, List.set_cons_succ]
    refine wpAnyH_take (i := 3) (v := ?v4) (by simp only [List.getElem?_toArray, List.getElem?_cons_succ, List.getElem?_cons_zero]; exact rfl) (by kernel_rfl) (by kernel_rfl) (by kernel_rfl) (by intro _ _ _ h; exact h) (Or.inl ⟨by rfl, ?y4⟩) hHeld ?_
    case y4 => (intro w hSw; (try dsimp only at hSw); go_simp; try (with_reducible rfl))
    try simp only [Act.put, List.setIfInBounds_toArray, List.set_cons_zero, List.set_cons_succ]
    refine wpAnyH_take (i := 4) (v := ?v5) (by simp only [List.getElem?_toArray, List.getElem?_cons_succ, List.getElem?_cons_zero]; exact rfl) (by kernel_rfl) (by kernel_rfl) (by kernel_rfl) (by intro _ _ _ h; exact h) (Or.inl ⟨by rfl, ?y5⟩) hHeld ?_
    case y5 => (intro w hSw; (try dsimp only at hSw); go_simp; try (with_reducible rfl))
    try simp only [Act.put, List.setIfInBounds_toArray, List.set_cons_zero, List.set_cons_succ]
    refine wpAnyH_take (i := 5) (v := ?v6) (by simp only [List.getElem?_toArray, List.getElem?_cons_succ, List.getElem?_cons_zero]; exact rfl) (by kernel_rfl) (by kernel_rfl) (by kernel_rfl) (by intro _ _ _ h; exact h) (Or.inl ⟨by rfl, ?y6⟩) hHeld ?_
    case y6 => (intro w hSw; (try dsimp only at hSw); go_simp; try (with_reducible rfl))
    try simp only [Act.put, List.setIfInBounds_toArray, List.set_cons_zero, List.set_cons_succ]
    refine wpAnyH_take (i := 6) (v := ?v7) (by simp only [List.getElem?_toArray, List.getElem?_cons_succ, List.getElem?_cons_zero]; exact rfl) (by kernel_rfl) (by kernel_rfl) (by kernel_rfl) (by intro _ _ _ h; exact h) (Or.inl ⟨by rfl, ?y7⟩) hHeld ?_
    case y7 => (intro w hSw; (try dsimp only at hSw); go_simp; try (with_reducible rfl))
    try simp only [Act.put, List.setIfInBounds_toArray, List.set_cons_zero, List.set_cons_succ]
    refine wpAnyH_take (i := 7) (v := ?v8) (by simp only [List.getElem?_toArray, List.getElem?_cons_succ, List.getElem?_cons_zero]; exact rfl) (by kernel_rfl) (by kernel_rfl) (by kernel_rfl) (by intro _ _ _ h; exact h) (Or.inl ⟨by rfl, ?y8⟩) hHeld ?_
    case y8 => (intro w hSw; (try dsimp only at hSw); go_simp; try (with_reducible rfl))
    try simp only [Act.put, List.setIfInBounds_toArray, List.set_cons_zero, List.set_cons_succ]
    refine wpAnyH_ready (rs := [8]) (by kernel_rfl) (by simp) ?_
    refine AllReadyH.cons (by simp only [List.getElem?_toArray, List.getElem?_cons_succ, List.getElem?_cons_zero]; exact rfl) (fun K hK => ?_) AllReadyH.nil
    go_simp
    rw [HE.ent, Oper.upon_enter]
    refine (HE.call F s _ p w.drew (HE.keep _ _ _ _ hst (fun _ _ => rfl)) (hown.drawn (Drawn.refl _).drew) (fun b hb => (hpF b hb).2) (fun b hb => (hFl b hb).2) hB (by omega) (HKK.out p (by omega) hgp)).mono ?_
    rintro e w1 ⟨F1, rfl, hst1, hF1, hF1l, hk1⟩
    have hrow1 := hrow.keep (w' := w1) (fun k hk => by (have : sb = k := by simpa [Value.ownBlock] using hk); subst this; exact hk1.block _ hsl hFs)
    obtain ⟨d0, d1, d2, d3, d4, -, -, -⟩ := row5 hrow1
    try dsimp only
    refine hK.out _ _ ?h10 (fun hHeld => ?_)
    case h10 => first | exact ⟨‹_›, ‹_›⟩ | assumption | (simp [*, go_sem])
    clear hK K
    try simp only [Act.put, List.setIfInBounds_toArray, List.set_cons_zero, List.set_cons_succ]
    refine wpAnyH_take (i := 9) (v := ?v11) (by simp only [List.getElem?_toArray, List.getElem?_cons_succ, List.getElem?_cons_zero]; exact rfl) (by kernel_rfl) (by kernel_rfl) (by kernel_rfl) (by intro _ _ _ h; exact h) (Or.inl ⟨by rfl, ?y11⟩) hHeld ?_
    case y11 => (intro w hSw; (try dsimp only at hSw); go_simp; try (with_reducible rfl))
    try simp only [Act.put, List.setIfInBounds_toArray, List.set_cons_zero, List.set_cons_succ]
    refine wpAnyH_done (by kernel_rfl) ?_ _
    go_wp2
    go_ret
    rw [HS.out]
    exact ⟨rfl, ⟨_, F1, hrow1, hown.keep (fun k hk => hk1.block k (hown.lt k hk).2 (hpF k hk).2), fun b hb => ⟨(hpF b hb).1, fun hf => by
      rcases hF1 b hf with h | h
      · exact (hpF b hb).2 h
      · have := (hown.lt b hb).2; have : w.drew.heap.size = w.heap.size := rfl; omega⟩, fun hf => by
      rcases hF1 sb hf with h | h
      · exact hFs h
      · have : w.drew.heap.size = w.heap.size := rfl; omega, fun b hf => ⟨by
        rcases hF1 b hf with h | h
        · exact (hFl b h).1
        · have : w.drew.heap.size = w.heap.size := rfl; omega, hF1l b hf⟩, hst1⟩, hk1.below (Below.refl _ _).drew hB (fun b hb => (hFl b hb).1)⟩
  | succ d ih =>
    intro p s w hpd hgp hst hB hw0
    obtain ⟨hvH, hvQ⟩ : SlI (fun _ => True) w .u32 hv (natsI H) ∧ SlI (fun _ => True) w .u32 qv (natsI Q) := by
      obtain ⟨_, F, _, _, _, _, _, h⟩ := hst
      exact HR F s w hw0 h
    obtain ⟨ha, hc, rfl⟩ := hvH.slice
    obtain ⟨qa, qc, rfl⟩ := hvQ.slice
    simp only [natsI_len] at ih HR hvH hvQ hst ⊢
    clear hvH hvQ
    have hp16 : p.length < 16 := by omega
    have hlq : ((p.length : Int) == (Q.length : Int)) = false := by rw [beq_eq_false_iff_ne]; omega
    have hlq2 : (p.length == Q.length) = false := by rw [beq_eq_false_iff_ne]; omega
    have hplt : p.length < Q.length := by omega
    have HPD := Lib.hid hpd; clear hpd
    have hst0 := hst
    obtain ⟨pv, F, hrow, hown, hpF, hFs, hFl, hstF⟩ := hst
    obtain ⟨c0, c1, c2, c3, c4, hfz, hsB, hsl⟩ := row5 hrow
    have hpi := hown.ints (xs := natsI p) (by omega)
    obtain ⟨pa, pc, hpe⟩ := hpi.slice
    rw [natsI_len] at hpe
    subst hpe
    have HSF := Lib.hid (show loopS (fun v s => if okB H Q p v = true then srchF H Q ef d (p ++ [v]) s else (s, false)) (List.range' 0 (H.length - 0)) s = srchF H Q ef (d + 1) p s from by rw [srchF, loopS_start])
    go_enter Try.func82, Try.ntmps82
    go_wp2
    clear c0 c1 c2 c3 c4 hfz hrow hown hpF hFs hFl hstF hpi
    go_loopw [35] (fun i wr => ∃ (k : Nat) (s' : σ), k ≤ H.length ∧ i = .int .i64 k ∧ GSt 3 104 St wr B sb (.slice ha H.length hc) (.slice qa Q.length qc) (.func (Fn.func N) #[] #[.pointer (some ⟨cb, 0, none⟩)]) p s' ∧ Below B w wr ∧
      loopS (fun v s => if okB H Q p v = true then srchF H Q ef d (p ++ [v]) s else (s, false)) (List.range' k (H.length - k)) s' = srchF H Q ef (d + 1) p s) (fun i _ => H.length - (intOf i).toNat)
    case atStart => exact ⟨0, s, Nat.zero_le _, rfl, hst0, Below.refl _ _, HSF.out⟩
    case round =>
      clear hst0
      obtain ⟨k, s', hk, rfl, hst, hq, hloop⟩ := hrel
      obtain ⟨wo, rfl⟩ : ∃ wo : World, wo = wr := ⟨_, rfl⟩
      have HL := Lib.hid hloop; clear hloop
      have hB1 : B ≤ wo.heap.size := Nat.le_trans hB hq.size
      by_cases hlt : k < H.length
      case neg =>
        obtain rfl : k = H.length := by omega
        have hl := HL.out
        rw [loopS_end] at hl
        have HL2 := Lib.hid hl; clear hl
        go_wp2
        go_ret
        rw [← HL2.out]
        exact ⟨rfl, hst, hq⟩
      have hstep := loopS_step (f := fun v s => if okB H Q p v = true then srchF H Q ef d (p ++ [v]) s else (s, false)) (s := s') hlt
      rw [HL.out] at hstep
      have HST := Lib.hid hstep; clear hstep HL
      have hst0 := hst
      obtain ⟨pv, F, hrow, hown, hpF, hFs, hFl, hstF⟩ := hst
      obtain ⟨hvH1, hvQ1⟩ := HR F s' _ (hw0.trans hq) hstF
      obtain ⟨c0, c1, c2, c3, c4, hfz, hsB, hsl⟩ := row5 hrow
      have hpi := hown.ints (xs := natsI p) (by omega)
      obtain ⟨pa, pc, hpe⟩ := hpi.slice
      rw [natsI_len] at hpe
      subst hpe
      have hml : maskN p < 4294967296 := by
        have := maskN_lt (p := p) (n := 32) (fun a ha => by have := hgp.1 a ha; omega); simpa using this
      by_cases hkp : k ∈ p
      · have hb : (maskN p).testBit k = true := by rw [testBit_maskN]; simpa using hkp
        have hok : okB H Q p k = false := by simp [okB, hkp]
        have hs := HST.out
        simp only [hok, Bool.false_eq_true, if_false] at hs
        have HS := Lib.hid hs; clear hs hkp hok
        go_wp2_with (go_at_call 73; refine (has_any _ _ _ hml (by omega)).mono ?_; rintro e w' ⟨rfl, rfl⟩)
        go_roundw
        case rel => exact ⟨k + 1, s', by omega, by go_num, hst0, hq, HS.out.symm⟩
        case measure => simp [intOf]; omega
      have hb : (maskN p).testBit k = false := by rw [testBit_maskN]; simpa using hkp
      -- the cells that the comparisons read
      obtain ⟨hb_, ho_, hcap, hhe, hhc⟩ := hvH1.at_
      have hhe := hhe (by rw [natsI_len]; omega)
      simp only [Value.slice.injEq] at hhe
      obtain ⟨rfl, -, -⟩ := hhe
      obtain ⟨qb_, qo_, qcap, hqe, hqc⟩ := hvQ1.at_
      have hqe := hqe (by rw [natsI_len]; omega)
      simp only [Value.slice.injEq] at hqe
      obtain ⟨rfl, -, -⟩ := hqe
      have e0 : wo.cell? ⟨hb_, ho_ + k, none⟩ = some (.int .u32 ((H.getD k 0 : Nat) : Int)) := by
        have := hhc k (by rw [natsI_len]; exact hlt)
        rw [this, natsI_get]; simp [hlt]
      have e1 : wo.cell? ⟨qb_, qo_ + p.length, none⟩ = some (.int .u32 ((Q.getD p.length 0 : Nat) : Int)) := by
        have hlt3 : p.length < Q.length := by omega
        have := hqc p.length (by rw [natsI_len]; omega)
        rw [this, natsI_get]; simp [hlt3]
      have hHk : H.getD k 0 < 4294967296 := by
        have : H.getD k 0 = H[k] := by simp [hlt]
        rw [this]; exact hHl _ (List.getElem_mem _)
      have hQk : Q.getD p.length 0 < 4294967296 := by
        have hlt3 : p.length < Q.length := by omega
        have : Q.getD p.length 0 = Q[p.length] := by simp [hlt3]
        rw [this]; exact hQl _ (List.getElem_mem _)
      clear hhc hqc
      have hpl : ∀ j, j < p.length → p.getD j 0 < 32 := fun j hj => by
        have : p.getD j 0 = p[j] := by simp [hj]
        rw [this]; have := hgp.1 _ (List.getElem_mem hj); omega
      have HPL := Lib.hid hpl; clear hpl
      have HKP := Lib.hid hkp; clear hkp
      have hft := Lib.hid (show fitTo H Q p k 0 = true by simp [fitTo])
      go_wp2_with (go_at_call 73; refine (has_any _ _ _ hml (by omega)).mono ?_; rintro e w' ⟨rfl, rfl⟩)
      clear hb
      go_loopw [5, 49] (fun f j ws => ∃ r : Nat, r ≤ p.length ∧ j = .int .i64 r ∧ f = .bool (fitTo H Q p k r) ∧ Drawn wo ws) (fun _ j _ => p.length - (intOf j).toNat)
      case atStart => exact ⟨0, Nat.zero_le _, rfl, by rw [hft.out], Drawn.refl _⟩
      case round =>
        obtain ⟨r, hr, rfl, rfl, hd⟩ := hrel
        by_cases hrl : r < p.length
        · have hpr := HPL.out r hrl
          have hpc := hpi.at_
          obtain ⟨pb_, po_, pcap, hpe, hpcc⟩ := hpc
          have hpe := hpe (by rw [natsI_len]; omega)
          simp only [Value.slice.injEq] at hpe
          obtain ⟨rfl, -, -⟩ := hpe
          have e2 : wo.cell? ⟨pb_, po_ + r, none⟩ = some (.int .i64 ((p.getD r 0 : Nat) : Int)) := by
            have := hpcc r (by rw [natsI_len]; exact hrl)
            rw [this, natsI_get]; simp [hrl]
          clear hpcc
          have e2 := (hd.cell _).trans e2
          have e0' := (hd.cell _).trans e0
          have e1' := (hd.cell _).trans e1
          have c0' := (hd.cell _).trans c0
          have c1' := (hd.cell _).trans c1
          have hfs := fitTo_succ H Q p k r
          generalize p.getD r 0 = x at e2 hfs hpr
          generalize H.getD k 0 = mH at e0' hfs hHk
          generalize Q.getD p.length 0 = mQ at e1' hfs hQk
          clear e0 e1
          by_cases hf : fitTo H Q p k r = true
          · rw [hf, Bool.true_and] at hfs
            have HFS := Lib.hid hfs; clear hfs
            rw [hf]
            clear hf
            go_wp2
            go_quiet ((go_at_call 73; exact quiet_same (has_any _ _ _ (by assumption) (by omega))))
            go_wp2
            go_roundw
            case rel => exact ⟨r + 1, by omega, by go_num, by rw [HFS.out], hd.drewN _⟩
            case measure => simp [intOf]; omega
          · have hf' : fitTo H Q p k r = false := by simpa using hf
            rw [hf', Bool.false_and] at hfs
            have HFS := Lib.hid hfs; clear hfs
            rw [hf']
            clear hf hf'
            go_wp2
            go_quiet (fail)
            go_wp2
            go_roundw
            case rel => exact ⟨r + 1, by omega, by go_num, by rw [HFS.out], hd.drewN _⟩
            case measure => simp [intOf]; omega
        · obtain rfl : r = p.length := by omega
          have hst1 := hst0.drawn HE hd
          have hq1 := hq.trans (hd.below _)
          clear hrow hown hpF hFs hFl hstF c0 c1 c2 c3 c4 hfz hpi e0 e1 hst0
          by_cases hf : fitTo H Q p k p.length = true
          case neg =>
            have hf' : fitTo H Q p k p.length = false := by simpa using hf
            have hok : okB H Q p k = false := by simp [okB, hf']
            have hs := HST.out
            simp only [hok, Bool.false_eq_true, if_false] at hs
            have HS := Lib.hid hs; clear hs hok hf
            rw [hf']
            clear hf'
            go_wp2
            go_roundw
            case rel => exact ⟨k + 1, s', by omega, by go_num, hst1, hq1, HS.out.symm⟩
            case measure => simp [intOf]; omega
          have hok : okB H Q p k = true := by simp [okB, hf, HKP.out]
          have hs := HST.out
          simp only [hok, if_true] at hs
          have HS := Lib.hid hs; clear hs hok
          rw [hf]
          clear hf HST
          obtain ⟨wi, rfl⟩ : ∃ wi : World, wi = wr := ⟨_, rfl⟩
          clear hd
          have hBi : B ≤ wi.heap.size := Nat.le_trans hB hq1.size
          obtain ⟨pv, F, hrow, hown, hpF, hFs, hFl, hstF⟩ := hst1
          obtain ⟨c0, c1, c2, c3, c4, hfz, hsB, hsl⟩ := row5 hrow
          have hpi := hown.ints (xs := natsI p) (by omega)
          obtain ⟨pa, pc, hpe⟩ := hpi.slice
          rw [natsI_len] at hpe
          subst hpe
          have hgp2 : GP H.length (p ++ [k]) := hgp.snoc hlt HKP.out
          have hor := u32_or_nat (maskN p) (bit k) hml (bit_lt (by omega))
          rw [← maskN_snoc] at hor
          have hw2 := Lib.hid hgp2; clear hgp2
          clear c0 c1 c4 hpi
          go_wp2
          refine wp_region_late (S := (fun w' => w'.cell? ⟨sb, 2, none⟩ = some (.slice pa p.length pc) ∧ w'.cell? ⟨sb, 3, none⟩ = some (.int .u32 (maskN p : Int)))) (late := [18, 21]) (by kernel_rfl) ?_ (fun hHeld => ?_)
          · first | exact ⟨‹_›, ‹_›⟩ | (simp [*, go_sem])
          have hdw : Drawn wi wi.drew := (Drawn.refl _).drew
          generalize wi.drew = wd at hdw hHeld ⊢
          have ownd := hown.drawn hdw
          have rowd := hrow.drawn hdw
          obtain ⟨-, -, d2, d3, -, -, -, hsl2⟩ := row5 rowd
          have hBd : B ≤ wd.heap.size := by rw [hdw.heap]; exact hBi
          refine wpLate_take (i := 0) (v := ?v12) (by simp only [List.getElem?_toArray, List.getElem?_cons_zero]; exact rfl) (by kernel_rfl) (by kernel_rfl) (by kernel_rfl) (by intro _ _ _ h; exact h) (Or.inl ⟨by rfl, ?y12⟩) ?_
          case y12 => (intro w _; go_simp; try (with_reducible rfl))
          try simp only [Act.put, List.setIfInBounds_toArray, List.set_cons_zero, List.set_cons_succ]
          refine wpLate_take (i := 1) (v := ?v13) (by simp only [List.getElem?_toArray, List.getElem?_cons_succ, List.getElem?_cons_zero]; exact rfl) (by kernel_rfl) (by kernel_rfl) (by kernel_rfl) (by intro _ _ _ h; exact h) (Or.inl ⟨by rfl, ?y13⟩) ?_
          case y13 => (intro w _; go_simp; try (with_reducible rfl))
          try simp only [Act.put, List.setIfInBounds_toArray, List.set_cons_zero, List.set_cons_succ]
          refine wpLate_take (i := 2) (v := ?v14) (by simp only [List.getElem?_toArray, List.getElem?_cons_succ, List.getElem?_cons_zero]; exact rfl) (by kernel_rfl) (by kernel_rfl) (by kernel_rfl) (by intro _ _ _ h; exact h) (Or.inl ⟨by rfl, ?y14⟩) ?_
          case y14 => (intro w _; go_simp; try (with_reducible rfl))
          try simp only [Act.put, List.setIfInBounds_toArray, List.set_cons_zero, List.set_cons_succ]
          refine wpLate_take (i := 3) (v := ?v15) (by simp only [List.getElem?_toArray, List.getElem?_cons_succ, List.getElem?_cons_zero]; exact rfl) (by kernel_rfl) (by kernel_rfl) (by kernel_rfl) (by intro _ _ _ h; exact h) (Or.inl ⟨by rfl, ?y15⟩) ?_
          case y15 => (intro w _; go_simp; try (with_reducible rfl))
          try simp only [Act.put, List.setIfInBounds_toArray, List.set_cons_zero, List.set_cons_succ]
          refine wpLate_take (i := 4) (v := ?v16) (by simp only [List.getElem?_toArray, List.getElem?_cons_succ, List.getElem?_cons_zero]; exact rfl) (by kernel_rfl) (by kernel_rfl) (by kernel_rfl) (by intro _ _ _ h; exact h) (Or.inl ⟨by rfl, ?y16⟩) ?_
          case y16 => (intro w _; go_simp; try (with_reducible rfl))
          try simp only [Act.put, List.setIfInBounds_toArray, List.set_cons_zero, List.set_cons_succ]
          refine wpLate_load (i := 5) (v := ?v17) (by simp only [List.getElem?_toArray, List.getElem?_cons_succ, List.getElem?_cons_zero]; exact rfl) (by kernel_rfl) (by kernel_rfl) (by kernel_rfl) (by kernel_rfl) (by intro _ _ _ h; exact h) (Or.inl ⟨by rfl, ?y17⟩) hHeld ?_
          case y17 => (intro w hSw; (try dsimp only at hSw); go_simp; try (with_reducible rfl))
          try simp only [Act.put, List.setIfInBounds_toArray, List.set_cons_zero, List.set_cons_succ]
          refine wpLate_take (i := 6) (v := ?v18) (by simp only [List.getElem?_toArray, List.getElem?_cons_succ, List.getElem?_cons_zero]; exact rfl) (by kernel_rfl) (by kernel_rfl) (by kernel_rfl) (by intro _ _ _ h; exact h) (Or.inl ⟨by rfl, ?y18⟩) ?_
          case y18 => (intro w _; go_simp; try (with_reducible rfl))
          try simp only [Act.put, List.setIfInBounds_toArray, List.set_cons_zero, List.set_cons_succ]
          refine wpLate_take (i := 9) (v := ?v19) (by simp only [List.getElem?_toArray, List.getElem?_cons_succ, List.getElem?_cons_zero]; exact rfl) (by kernel_rfl) (by kernel_rfl) (by kernel_rfl) (by intro _ _ _ h; exact h) (Or.inl ⟨by rfl, ?y19⟩) ?_
          case y19 => (intro w _; go_simp; try (with_reducible rfl))
          try simp only [Act.put, List.setIfInBounds_toArray, List.set_cons_zero, List.set_cons_succ]
          refine wpLate_take (i := 10) (v := ?v20) (by simp only [List.getElem?_toArray, List.getElem?_cons_succ, List.getElem?_cons_zero]; exact rfl) (by kernel_rfl) (by kernel_rfl) (by kernel_rfl) (by intro _ _ _ h; exact h) (Or.inl ⟨by rfl, ?y20⟩) ?_
          case y20 => (intro w _; go_simp; try (with_reducible rfl))
          try simp only [Act.put, List.setIfInBounds_toArray, List.set_cons_zero, List.set_cons_succ]
          refine wpLate_take (i := 11) (v := ?v21) (by simp only [List.getElem?_toArray, List.getElem?_cons_succ, List.getElem?_cons_zero]; exact rfl) (by kernel_rfl) (by kernel_rfl) (by kernel_rfl) (by intro _ _ _ h; exact h) (Or.inl ⟨by rfl, ?y21⟩) ?_
          case y21 => (intro w _; go_simp; try (with_reducible rfl))
          try simp only [Act.put, List.setIfInBounds_toArray, List.set_cons_zero, List.set_cons_succ]
          refine wpLate_load (i := 12) (v := ?v22) (by simp only [List.getElem?_toArray, List.getElem?_cons_succ, List.getElem?_cons_zero]; exact rfl) (by kernel_rfl) (by kernel_rfl) (by kernel_rfl) (by kernel_rfl) (by intro _ _ _ h; exact h) (Or.inl ⟨by rfl, ?y22⟩) hHeld ?_
          case y22 => (intro w hSw; (try dsimp only at hSw); go_simp; try (with_reducible rfl))
          try simp only [Act.put, List.setIfInBounds_toArray, List.set_cons_zero, List.set_cons_succ]
          refine wpLate_take (i := 13) (v := ?v23) (by simp only [List.getElem?_toArray, List.getElem?_cons_succ, List.getElem?_cons_zero]; exact rfl) (by kernel_rfl) (by kernel_rfl) (by kernel_rfl) (by intro _ _ _ h; exact h) (Or.inl ⟨by rfl, ?y23⟩) ?_
          case y23 => (intro w _; go_simp; try (with_reducible rfl))
          try simp only [Act.put, List.setIfInBounds_toArray, List.set_cons_zero, List.set_cons_succ]
          refine wpLate_one (i := 7) (by kernel_rfl) (by simp only [List.getElem?_toArray, List.getElem?_cons_succ, List.getElem?_cons_zero]; exact rfl) (by kernel_rfl) (fun K hK => ?_)
          go_simp
          have d2 := (World.cell?_alloc_some wd ⟨sb, 2, none⟩ (.cells #[.int .i64 (k : Int)] 3) (by rw [d2]; rfl)).trans d2
          have d3 := (World.cell?_alloc_some wd ⟨sb, 3, none⟩ (.cells #[.int .i64 (k : Int)] 3) (by rw [d3]; rfl)).trans d3
          try dsimp only
          refine hK.out _ _ ?h24 (fun hHeld => ?_)
          case h24 => first | exact ⟨‹_›, ‹_›⟩ | (simp [*, go_sem])
          clear hK K
          try simp only [Act.put, List.setIfInBounds_toArray, List.set_cons_zero, List.set_cons_succ]
          refine wpLate_one (i := 8) (by kernel_rfl) (by simp only [List.getElem?_toArray, List.getElem?_cons_succ, List.getElem?_cons_zero]; exact rfl) (by kernel_rfl) (fun K hK => ?_)
          rw [if_pos (by rfl)]
          refine opWp_append1 elInt _ _ rfl ownd rfl rfl rfl rfl (by omega) hBd ?_
          intro v' w2 hown2 hkept hmv
          obtain ⟨na, nc, rfl⟩ := hown2.isSlice
          have row2 := Own.kept rowd hkept (fun b hb he => (hpF b he).1 (by simpa [Value.ownBlock, eq_comm] using hb))
          obtain ⟨-, -, d2, d3, -, hfz2, -, -⟩ := row5 row2
          have hfa := hfz2 2
          have hfb := hfz2 3
          try dsimp only
          refine hK.out _ _ ?h25 (fun hHeld => ?_)
          case h25 => first | exact ⟨‹_›, ‹_›⟩ | (simp [*, go_sem])
          clear hK K
          try simp only [Act.put, List.setIfInBounds_toArray, List.set_cons_zero, List.set_cons_succ]
          refine wpLate_one (i := 14) (by kernel_rfl) (by simp only [List.getElem?_toArray, List.getElem?_cons_succ, List.getElem?_cons_zero]; exact rfl) (by kernel_rfl) (fun K hK => ?_)
          go_simp
          refine (one_any _ _ (by omega) (by omega)).mono ?_
          rintro e w' ⟨rfl, rfl⟩
          try dsimp only
          refine hK.out _ _ ?h26 (fun hHeld => ?_)
          case h26 => first | exact ⟨‹_›, ‹_›⟩ | (simp [*, go_sem])
          clear hK K
          try simp only [Act.put, List.setIfInBounds_toArray, List.set_cons_zero, List.set_cons_succ]
          refine wpLate_take (i := 15) (v := ?v27) (by simp only [List.getElem?_toArray, List.getElem?_cons_succ, List.getElem?_cons_zero]; exact rfl) (by kernel_rfl) (by kernel_rfl) (by kernel_rfl) (by intro _ _ _ h; exact h) (Or.inl ⟨by rfl, ?y27⟩) ?_
          case y27 => (intro w _; go_simp; try (with_reducible rfl))
          try simp only [Act.put, List.setIfInBounds_toArray, List.set_cons_zero, List.set_cons_succ]
          refine wpLate_take (i := 16) (v := ?v28) (by simp only [List.getElem?_toArray, List.getElem?_cons_succ, List.getElem?_cons_zero]; exact rfl) (by kernel_rfl) (by kernel_rfl) (by kernel_rfl) (by intro _ _ _ h; exact h) (Or.inl ⟨by rfl, ?y28⟩) ?_
          case y28 => (intro w _; go_simp; try (with_reducible rfl))
          try simp only [Act.put, List.setIfInBounds_toArray, List.set_cons_zero, List.set_cons_succ]
          refine wpLate_take (i := 17) (v := ?v29) (by simp only [List.getElem?_toArray, List.getElem?_cons_succ, List.getElem?_cons_zero]; exact rfl) (by kernel_rfl) (by kernel_rfl) (by kernel_rfl) (by intro _ _ _ h; exact h) (Or.inl ⟨by rfl, ?y29⟩) ?_
          case y29 => (intro w _; go_simp; try (with_reducible rfl))
          try simp only [Act.put, List.setIfInBounds_toArray, List.set_cons_zero, List.set_cons_succ]
          refine wpLate_late (i := 18) (by kernel_rfl) (by simp only [List.getElem?_toArray, List.getElem?_cons_succ, List.getElem?_cons_zero]; exact rfl) (by kernel_rfl) (fun K hK => ?_)
          go_simp
          skip
          try dsimp only
          refine hK.out _ _ ?_
          clear hK K
          try simp only [Act.put, List.setIfInBounds_toArray, List.set_cons_zero, List.set_cons_succ]
          refine wpLate_take (i := 19) (v := ?v31) (by simp only [List.getElem?_toArray, List.getElem?_cons_succ, List.getElem?_cons_zero]; exact rfl) (by kernel_rfl) (by kernel_rfl) (by kernel_rfl) (by intro _ _ _ h; exact h) (Or.inl ⟨by rfl, ?y31⟩) ?_
          case y31 => (intro w _; go_simp; try (with_reducible rfl))
          try simp only [Act.put, List.setIfInBounds_toArray, List.set_cons_zero, List.set_cons_succ]
          refine wpLate_take (i := 20) (v := ?v32) (by simp only [List.getElem?_toArray, List.getElem?_cons_succ, List.getElem?_cons_zero]; exact rfl) (by kernel_rfl) (by kernel_rfl) (by kernel_rfl) (by intro _ _ _ h; exact h) (Or.inl ⟨by rfl, ?y32⟩) ?_
          case y32 => (intro w _; go_simp; try (with_reducible rfl))
          try simp only [Act.put, List.setIfInBounds_toArray, List.set_cons_zero, List.set_cons_succ]
          refine wpLate_late (i := 21) (by kernel_rfl) (by simp only [List.getElem?_toArray, List.getElem?_cons_succ, List.getElem?_cons_zero]; exact rfl) (by kernel_rfl) (fun K hK => ?_)
          go_simp
          skip
          try dsimp only
          refine hK.out _ _ ?_
          clear hK K
          try simp only [Act.put, List.setIfInBounds_toArray, List.set_cons_zero, List.set_cons_succ]
          refine wpLate_done (by kernel_rfl) ?_ _
          have hk2 : KeptBut wi w2 (Value.slice pa p.length pc).ownBlock := hkept.drawn hdw
          have hlen2 : (p ++ [k]).length = p.length + 1 := by simp
          have hown3 : Own w2 B 3 1 (.slice na (p.length + 1) nc) (p ++ [k]).length ((natsI (p ++ [k])).map (.int .i64)) := by
            rw [hlen2, natsI_append]; simpa [natsI] using hown2
          have hG := GSt.store HE (w := wi) (w' := w2) (p' := p ++ [k]) hrow hown3 (fun b hb => by
            rcases hmv with h | h
            · exact hpF b (by rw [← h]; exact hb)
            · rw [h] at hb
              have : b = wd.heap.size + 1 := by simpa using hb.symm
              have hde : wd.heap.size = wi.heap.size := by rw [hdw.heap]
              exact ⟨by omega, fun hf => by have := (hFl b hf).2; omega⟩) hFs hFl hstF (fun b hb => hk2.2.2.2.2 b (by rcases hb with rfl | hb; exact hsl; exact (hFl b hb).2) (fun e => by
              have := hpF b e.symm
              rcases hb with h | h
              · exact this.1 h
              · exact this.2 h)) hk2.2.2.2.1
          have hq2 : Below B w ((w2.setCell ⟨sb, 2, none⟩ (.slice na (p.length + 1) nc)).setCell ⟨sb, 3, none⟩ (.int .u32 (maskN (p ++ [k]) : Int))) := ((hk2.below hq1 hBi hown.ge).setCell (by simpa using hsB) _).setCell (by simpa using hsB) _
          clear hrow hown hpF hFs hFl hstF rowd ownd hown2 row2 hown3 hmv hkept hk2 d2 d3 hfa hfb hfz2 hfz c2 c3 hdw hBd hsl2 hor
          generalize ((w2.setCell ⟨sb, 2, none⟩ (.slice na (p.length + 1) nc)).setCell ⟨sb, 3, none⟩ (.int .u32 (maskN (p ++ [k]) : Int))) = w3 at hG hq2 ⊢
          have hB3 : B ≤ w3.heap.size := Nat.le_trans hB hq2.size
          go_wp2_with fail
          refine (ih (p ++ [k]) s' w3 (by have := HPD.out; rw [hlen2]; omega) hw2.out hG hB3 (hw0.trans hq2)).mono ?_
          rintro e w4 ⟨rfl, hG4, hb4⟩
          have hq4 := hq2.trans hb4
          have hB4 : B ≤ w4.heap.size := Nat.le_trans hB hq4.size
          clear hG hvH1 hvQ1
          generalize srchF H Q ef d (p ++ [k]) s' = r at *
          obtain ⟨r1, r2⟩ := r
          simp only at HS hG4 ⊢
          obtain ⟨pv, F, hrow, hown, hpF, hFs, hFl, hstF⟩ := hG4
          obtain ⟨c0, c1, c2, c3, c4, hfz, hsB, hsl⟩ := row5 hrow
          obtain ⟨pa, pc, rfl⟩ := hown.isSlice
          rw [hlen2] at hown hrow c2 hpF
          have hcap := (hown.ints (xs := natsI (p ++ [k])) (by omega)).capOf
          have hcap2 : p.length ≤ pc := by omega
          have hml2 : maskN (p ++ [k]) < 4294967296 := by
            have := maskN_lt (p := p ++ [k]) (n := 32) (fun a ha => by have := hw2.out.1 a ha; omega); simpa using this
          have hand := u32_andNot_nat (maskN (p ++ [k])) (bit k) hml2 (bit_lt (by omega))
          have hdrop := maskN_drop (p := p) (v := k) (fun a ha => by have := hgp.1 a ha; omega) (by omega) HKP.out
          have hand2 : bits BinOp.andNot IntKind.u32 (maskN (p ++ [k]) : Int) (bit k : Int) = (maskN p : Int) := hand.trans (by rw [← hdrop]; rfl)
          clear hand hdrop c0 c1 c4
          go_wp2
          refine wp_region_late (S := (fun w' => w'.cell? ⟨sb, 2, none⟩ = some (.slice pa (p.length + 1) pc) ∧ w'.cell? ⟨sb, 3, none⟩ = some (.int .u32 (maskN (p ++ [k]) : Int)))) (late := [17, 20]) (by kernel_rfl) ?_ (fun hHeld => ?_)
          · first | exact ⟨‹_›, ‹_›⟩ | (simp [*, go_sem])
          have hdw : Drawn w4 w4.drew := (Drawn.refl _).drew
          generalize w4.drew = wd at hdw hHeld ⊢
          have ownd := hown.drawn hdw
          have rowd := hrow.drawn hdw
          obtain ⟨-, -, d2, d3, -, hfz2, -, hsl2⟩ := row5 rowd
          have hfa := hfz2 2
          have hfb := hfz2 3
          refine wpLate_take (i := 0) (v := ?v34) (by simp only [List.getElem?_toArray, List.getElem?_cons_zero]; exact rfl) (by kernel_rfl) (by kernel_rfl) (by kernel_rfl) (by intro _ _ _ h; exact h) (Or.inl ⟨by rfl, ?y34⟩) ?_
          case y34 => (intro w _; go_simp; try (with_reducible rfl))
          try simp only [Act.put, List.setIfInBounds_toArray, List.set_cons_zero, List.set_cons_succ]
          refine wpLate_take (i := 1) (v := ?v35) (by simp only [List.getElem?_toArray, List.getElem?_cons_succ, List.getElem?_cons_zero]; exact rfl) (by kernel_rfl) (by kernel_rfl) (by kernel_rfl) (by intro _ _ _ h; exact h) (Or.inl ⟨by rfl, ?y35⟩) ?_
          case y35 => (intro w _; go_simp; try (with_reducible rfl))
          try simp only [Act.put, List.setIfInBounds_toArray, List.set_cons_zero, List.set_cons_succ]
          refine wpLate_take (i := 2) (v := ?v36) (by simp only [List.getElem?_toArray, List.getElem?_cons_succ, List.getElem?_cons_zero]; exact rfl) (by kernel_rfl) (by kernel_rfl) (by kernel_rfl) (by intro _ _ _ h; exact h) (Or.inl ⟨by rfl, ?y36⟩) ?_
          case y36 => (intro w _; go_simp; try (with_reducible rfl))
          try simp only [Act.put, List.setIfInBounds_toArray, List.set_cons_zero, List.set_cons_succ]
          refine wpLate_take (i := 3) (v := ?v37) (by simp only [List.getElem?_toArray, List.getElem?_cons_succ, List.getElem?_cons_zero]; exact rfl) (by kernel_rfl) (by kernel_rfl) (by kernel_rfl) (by intro _ _ _ h; exact h) (Or.inl ⟨by rfl, ?y37⟩) ?_
          case y37 => (intro w _; go_simp; try (with_reducible rfl))
          try simp only [Act.put, List.setIfInBounds_toArray, List.set_cons_zero, List.set_cons_succ]
          refine wpLate_take (i := 4) (v := ?v38) (by simp only [List.getElem?_toArray, List.getElem?_cons_succ, List.getElem?_cons_zero]; exact rfl) (by kernel_rfl) (by kernel_rfl) (by kernel_rfl) (by intro _ _ _ h; exact h) (Or.inl ⟨by rfl, ?y38⟩) ?_
          case y38 => (intro w _; go_simp; try (with_reducible rfl))
          try simp only [Act.put, List.setIfInBounds_toArray, List.set_cons_zero, List.set_cons_succ]
          refine wpLate_load (i := 5) (v := ?v39) (by simp only [List.getElem?_toArray, List.getElem?_cons_succ, List.getElem?_cons_zero]; exact rfl) (by kernel_rfl) (by kernel_rfl) (by kernel_rfl) (by kernel_rfl) (by intro _ _ _ h; exact h) (Or.inl ⟨by rfl, ?y39⟩) hHeld ?_
          case y39 => (intro w hSw; (try dsimp only at hSw); go_simp; try (with_reducible rfl))
          try simp only [Act.put, List.setIfInBounds_toArray, List.set_cons_zero, List.set_cons_succ]
          refine wpLate_take (i := 6) (v := ?v40) (by simp only [List.getElem?_toArray, List.getElem?_cons_succ, List.getElem?_cons_zero]; exact rfl) (by kernel_rfl) (by kernel_rfl) (by kernel_rfl) (by intro _ _ _ h; exact h) (Or.inl ⟨by rfl, ?y40⟩) ?_
          case y40 => (intro w _; go_simp; try (with_reducible rfl))
          try simp only [Act.put, List.setIfInBounds_toArray, List.set_cons_zero, List.set_cons_succ]
          refine wpLate_take (i := 7) (v := ?v41) (by simp only [List.getElem?_toArray, List.getElem?_cons_succ, List.getElem?_cons_zero]; exact rfl) (by kernel_rfl) (by kernel_rfl) (by kernel_rfl) (by intro _ _ _ h; exact h) (Or.inl ⟨by rfl, ?y41⟩) ?_
          case y41 => (intro w _; go_simp; try (with_reducible rfl))
          try simp only [Act.put, List.setIfInBounds_toArray, List.set_cons_zero, List.set_cons_succ]
          refine wpLate_take (i := 8) (v := ?v42) (by simp only [List.getElem?_toArray, List.getElem?_cons_succ, List.getElem?_cons_zero]; exact rfl) (by kernel_rfl) (by kernel_rfl) (by kernel_rfl) (by intro _ _ _ h; exact h) (Or.inl ⟨by rfl, ?y42⟩) ?_
          case y42 => (intro w _; go_simp; try (with_reducible rfl))
          try simp only [Act.put, List.setIfInBounds_toArray, List.set_cons_zero, List.set_cons_succ]
          refine wpLate_take (i := 9) (v := ?v43) (by simp only [List.getElem?_toArray, List.getElem?_cons_succ, List.getElem?_cons_zero]; exact rfl) (by kernel_rfl) (by kernel_rfl) (by kernel_rfl) (by intro _ _ _ h; exact h) (Or.inl ⟨by rfl, ?y43⟩) ?_
          case y43 => (intro w _; go_simp; try (with_reducible rfl))
          try simp only [Act.put, List.setIfInBounds_toArray, List.set_cons_zero, List.set_cons_succ]
          refine wpLate_take (i := 10) (v := ?v44) (by simp only [List.getElem?_toArray, List.getElem?_cons_succ, List.getElem?_cons_zero]; exact rfl) (by kernel_rfl) (by kernel_rfl) (by kernel_rfl) (by intro _ _ _ h; exact h) (Or.inl ⟨by rfl, ?y44⟩) ?_
          case y44 => (intro w _; go_simp; try (with_reducible rfl))
          try simp only [Act.put, List.setIfInBounds_toArray, List.set_cons_zero, List.set_cons_succ]
          refine wpLate_load (i := 11) (v := ?v45) (by simp only [List.getElem?_toArray, List.getElem?_cons_succ, List.getElem?_cons_zero]; exact rfl) (by kernel_rfl) (by kernel_rfl) (by kernel_rfl) (by kernel_rfl) (by intro _ _ _ h; exact h) (Or.inl ⟨by rfl, ?y45⟩) hHeld ?_
          case y45 => (intro w hSw; (try dsimp only at hSw); go_simp; try (with_reducible rfl))
          try simp only [Act.put, List.setIfInBounds_toArray, List.set_cons_zero, List.set_cons_succ]
          refine wpLate_take (i := 12) (v := ?v46) (by simp only [List.getElem?_toArray, List.getElem?_cons_succ, List.getElem?_cons_zero]; exact rfl) (by kernel_rfl) (by kernel_rfl) (by kernel_rfl) (by intro _ _ _ h; exact h) (Or.inl ⟨by rfl, ?y46⟩) ?_
          case y46 => (intro w _; go_simp; try (with_reducible rfl))
          try simp only [Act.put, List.setIfInBounds_toArray, List.set_cons_zero, List.set_cons_succ]
          refine wpLate_one (i := 13) (by kernel_rfl) (by simp only [List.getElem?_toArray, List.getElem?_cons_succ, List.getElem?_cons_zero]; exact rfl) (by kernel_rfl) (fun K hK => ?_)
          go_simp
          refine (one_any _ _ (by omega) (by omega)).mono ?_
          rintro e w' ⟨rfl, rfl⟩
          try dsimp only
          refine hK.out _ _ ?h47 (fun hHeld => ?_)
          case h47 => first | exact ⟨‹_›, ‹_›⟩ | (simp [*, go_sem])
          clear hK K
          try simp only [Act.put, List.setIfInBounds_toArray, List.set_cons_zero, List.set_cons_succ]
          refine wpLate_take (i := 14) (v := ?v48) (by simp only [List.getElem?_toArray, List.getElem?_cons_succ, List.getElem?_cons_zero]; exact rfl) (by kernel_rfl) (by kernel_rfl) (by kernel_rfl) (by intro _ _ _ h; exact h) (Or.inl ⟨by rfl, ?y48⟩) ?_
          case y48 => (intro w _; go_simp; try (with_reducible rfl))
          try simp only [Act.put, List.setIfInBounds_toArray, List.set_cons_zero, List.set_cons_succ]
          refine wpLate_take (i := 15) (v := ?v49) (by simp only [List.getElem?_toArray, List.getElem?_cons_succ, List.getElem?_cons_zero]; exact rfl) (by kernel_rfl) (by kernel_rfl) (by kernel_rfl) (by intro _ _ _ h; exact h) (Or.inl ⟨by rfl, ?y49⟩) ?_
          case y49 => (intro w _; go_simp; try (with_reducible rfl))
          try simp only [Act.put, List.setIfInBounds_toArray, List.set_cons_zero, List.set_cons_succ]
          refine wpLate_take (i := 16) (v := ?v50) (by simp only [List.getElem?_toArray, List.getElem?_cons_succ, List.getElem?_cons_zero]; exact rfl) (by kernel_rfl) (by kernel_rfl) (by kernel_rfl) (by intro _ _ _ h; exact h) (Or.inl ⟨by rfl, ?y50⟩) ?_
          case y50 => (intro w _; go_simp; try (with_reducible rfl))
          try simp only [Act.put, List.setIfInBounds_toArray, List.set_cons_zero, List.set_cons_succ]
          refine wpLate_late (i := 17) (by kernel_rfl) (by simp only [List.getElem?_toArray, List.getElem?_cons_succ, List.getElem?_cons_zero]; exact rfl) (by kernel_rfl) (fun K hK => ?_)
          go_simp
          skip
          try dsimp only
          refine hK.out _ _ ?_
          clear hK K
          try simp only [Act.put, List.setIfInBounds_toArray, List.set_cons_zero, List.set_cons_succ]
          refine wpLate_take (i := 18) (v := ?v52) (by simp only [List.getElem?_toArray, List.getElem?_cons_succ, List.getElem?_cons_zero]; exact rfl) (by kernel_rfl) (by kernel_rfl) (by kernel_rfl) (by intro _ _ _ h; exact h) (Or.inl ⟨by rfl, ?y52⟩) ?_
          case y52 => (intro w _; go_simp; try (with_reducible rfl))
          try simp only [Act.put, List.setIfInBounds_toArray, List.set_cons_zero, List.set_cons_succ]
          refine wpLate_take (i := 19) (v := ?v53) (by simp only [List.getElem?_toArray, List.getElem?_cons_succ, List.getElem?_cons_zero]; exact rfl) (by kernel_rfl) (by kernel_rfl) (by kernel_rfl) (by intro _ _ _ h; exact h) (Or.inl ⟨by rfl, ?y53⟩) ?_
          case y53 => (intro w _; go_simp; try (with_reducible rfl))
          try simp only [Act.put, List.setIfInBounds_toArray, List.set_cons_zero, List.set_cons_succ]
          refine wpLate_late (i := 20) (by kernel_rfl) (by simp only [List.getElem?_toArray, List.getElem?_cons_succ, List.getElem?_cons_zero]; exact rfl) (by kernel_rfl) (fun K hK => ?_)
          go_simp
          skip
          try dsimp only
          refine hK.out _ _ ?_
          clear hK K
          try simp only [Act.put, List.setIfInBounds_toArray, List.set_cons_zero, List.set_cons_succ]
          refine wpLate_done (by kernel_rfl) ?_ _
          have hown5 : Own wd B 3 1 (.slice pa p.length pc) p.length ((natsI p).map (.int .i64)) := by
            have := Own.reslice ownd (m := p.length) (by omega)
            rw [Nat.mul_one, natsI_append, List.map_append, List.take_left' (by simp [natsI])] at this
            exact this
          have hG := GSt.store HE (w := wd) (w' := wd) (p' := p) rowd hown5 (fun b hb => hpF b (by rw [← hb]; exact ownBlock_slice _ _ _ _)) hFs (fun b hb => by rw [hdw.heap]; exact hFl b hb) (HE.keep _ _ _ _ hstF (fun b _ => by rw [hdw.heap])) (fun _ _ => rfl) (Nat.le_refl _)
          have hq5 : Below B w ((wd.setCell ⟨sb, 2, none⟩ (.slice pa p.length pc)).setCell ⟨sb, 3, none⟩ (.int .u32 (maskN p : Int))) := ((hq4.trans (hdw.below _)).setCell (by simpa using hsB) _).setCell (by simpa using hsB) _
          clear hrow hown hpF hFs hFl hstF rowd ownd hown5 hfa hfb hfz2 hfz c2 c3 hdw hsl2 hand2 hcap d2 d3
          generalize ((wd.setCell ⟨sb, 2, none⟩ (.slice pa p.length pc)).setCell ⟨sb, 3, none⟩ (.int .u32 (maskN p : Int))) = w5 at hG hq5 ⊢
          by_cases hr2 : r2 = true
          · subst hr2
            have hs := HS.out
            simp only [if_true] at hs
            have HS2 := Lib.hid hs; clear hs HS
            go_wp2
            go_ret
            rw [HS2.out]
            exact ⟨rfl, hG, hq5⟩
          · have hr3 : r2 = false := by simpa using hr2
            subst hr3
            have hs := HS.out
            simp only [Bool.false_eq_true, if_false] at hs
            have HS2 := Lib.hid hs; clear hs HS
            go_wp2
            go_roundw
            case rel => exact ⟨k + 1, r1, by omega, by go_num, hG, hq5, HS2.out.symm⟩
            case measure => simp [intOf]; omega
end Go.Proofs.Ytplohdnakllbiaa
