/- The search for a pattern in a host: contract of its step. -/
import Derived.Test.YtpdlcnpmljfclaaDoorFitM
import Derived.Test.YtpdlcnpmljfclaaDoorHeld
namespace Go.Proofs.YtpdlcnpmljfclaaDoor
open Go.RowKit

/-- Blocks outside F are as they were. -/
structure Keeps (F : Nat → Prop) (w w' : World) : Prop where
  os : w'.os = w.os
  tape : w'.tape = w.tape
  output : w'.output = w.output
  size : w.heap.size ≤ w'.heap.size
  block : ∀ b, b < w.heap.size → ¬ F b → w'.heap[b]? = w.heap[b]?
theorem Keeps.below {F : Nat → Prop} {w0 w w' : World} {B : Nat} (h : Keeps F w w') (hb : Below B w0 w) (hB : B ≤ w.heap.size) (hF : ∀ b, F b → B ≤ b) : Below B w0 w' :=
  hb.trans ⟨h.os, h.tape, h.output, h.size, fun b hb2 => h.block b (by omega) (fun hf => by have := hF b hf; omega)⟩
variable {σ : Type}
/-- What is called at the end of a path: a function value with one captured variable. -/
structure EachC (P : Program) (N cb B : Nat) (E : TypeId) (St : (Nat → Prop) → σ → World → Prop) (ef : List Nat → σ → σ × Bool) (K : List Nat → Prop := fun _ => True) : Prop where
  call : ∀ (F : Nat → Prop) (s : σ) (pv : Value) (p : List Nat) (w : World), St F s w → Own w B E 1 pv p.length ((natsI p).map (.int .i64)) → (∀ b, pv.ownBlock = some b → ¬ F b) → (∀ b, F b → b < w.heap.size) → B ≤ w.heap.size → p.length ≤ 16 → K p →
    Calls P N #[pv, .pointer (some ⟨cb, 0, none⟩)] w fun e w' => ∃ F' : Nat → Prop, e = .returned (.bool (ef p s).2) ∧ St F' (ef p s).1 w' ∧ (∀ b, F' b → F b ∨ w.heap.size ≤ b) ∧ (∀ b, F' b → b < w'.heap.size) ∧ Keeps F w w'
  ent : ∀ (args : Array Value) (w : World), (callFunc N args).run P w = .ok (.enter N args) w
  keep : ∀ (F : Nat → Prop) (s : σ) (w w' : World), St F s w → (∀ b, F b → w'.heap[b]? = w.heap[b]?) → St F s w'
/-- The search's own memory. -/
def GSt (E FS : TypeId) (St : (Nat → Prop) → σ → World → Prop) (w : World) (B sb : Nat) (hv qv ev : Value) (p : List Nat) (s : σ) : Prop :=
  ∃ (pv : Value) (F : Nat → Prop), Own w B FS 5 (.slice (some ⟨sb, 0, none⟩) 1 1) 1 [hv, qv, pv, .int .u32 (maskN p : Int), ev] ∧ Own w B E 1 pv p.length ((natsI p).map (.int .i64)) ∧ (∀ b, pv.ownBlock = some b → b ≠ sb ∧ ¬ F b) ∧ ¬ F sb ∧ (∀ b, F b → B ≤ b ∧ b < w.heap.size) ∧ St F s w
def GPost (E FS : TypeId) (St : (Nat → Prop) → σ → World → Prop) (w : World) (B sb : Nat) (hv qv ev : Value) (p : List Nat) (r : σ × Bool) (e : Ending) (w' : World) : Prop :=
  e = .returned (.bool r.2) ∧ GSt E FS St w' B sb hv qv ev p r.1 ∧ Below B w w'
theorem row5 {w : World} {B sb : Nat} {FS : TypeId} {a b c d e : Value} (h : Own w B FS 5 (.slice (some ⟨sb, 0, none⟩) 1 1) 1 [a, b, c, d, e]) :
    w.cell? ⟨sb, 0, none⟩ = some a ∧ w.cell? ⟨sb, 1, none⟩ = some b ∧ w.cell? ⟨sb, 2, none⟩ = some c ∧ w.cell? ⟨sb, 3, none⟩ = some d ∧ w.cell? ⟨sb, 4, none⟩ = some e ∧ (∀ j, w.frozen? ⟨sb, j, none⟩ = false) ∧ B ≤ sb ∧ sb < w.heap.size :=
  ⟨World.ownsRow.cellAt h 0 (by omega), World.ownsRow.cellAt h 1 (by omega), World.ownsRow.cellAt h 2 (by omega), World.ownsRow.cellAt h 3 (by omega), World.ownsRow.cellAt h 4 (by omega), fun j => World.ownsRow.frozenAt h j, (h.lt sb rfl).1, (h.lt sb rfl).2⟩
theorem natsI_append (a b : List Nat) : natsI (a ++ b) = natsI a ++ natsI b := by simp [natsI]
theorem SlI.below_lt {w w' : World} {B : Nat} {k : IntKind} {v : Value} {xs : List Int} (h : SlI (fun b => b < B) w k v xs) (hb : Below B w w') : SlI (fun b => b < B) w' k v xs := h.keep fun b hlt => hb.block b hlt
/-- append(s, x), one element of one cell, inside a region that draws its order. -/
theorem opWp_append1 {P : Program} {w : World} {T E : TypeId} {bytes : Nat} {z : Value} (hE : Elem P T E 1 bytes z) {B : Nat}
    {o : Oper} {a : Act} {K : Act → World → Prop} {Q : Exit → Act → World → Prop} (s x : Operand)
    (ho : o.op = .call { callee := .builtin .append, args := #[s, x], argTypes := #[T, T] })
    {v : Value} {n : Nat} {xs : List Value} (hown : Own w B E 1 v n xs) (hs : a.eval s = v) {u : Value} {nb : Nat} (hnb : nb = w.heap.size)
    (hx : a.eval x = .slice (some ⟨nb, 0, none⟩) 1 1) (h1 : u.oneCell' = true)
    (h63 : n + 1 ≤ 1099511627) (hbase : B ≤ w.heap.size)
    (h : ∀ v' w', Own w' B E 1 v' (n + 1) (xs ++ [u]) → KeptBut w w' v.ownBlock → Moved (w.alloc (.cells #[u] E)) v v' → K (a.put o.dst v') w') : o.wp P a (w.alloc (.cells #[u] E)) K Q := by
  subst hnb
  obtain ⟨v', w', hr, h2, h3, h4⟩ := append_run (w := w.alloc (.cells #[u] E)) (ty := o.type) hE v n xs (World.ownsRow.alloc hown _) ⟨w.heap.size, 0, none⟩ 1 1 [u] rfl (fun j u' hj => by
      match j, hj with
      | 0, hj => simp at hj; subst hj; simp [Addr.add])
    (fun u' hu' => by simp at hu'; subst hu'; exact h1) h63 (by simp; omega)
  unfold Oper.wp execOp
  simp only [ho, resolve, invoke, builtin, Sem.run_bind, Sem.run_pure, Result.andThen_ok, List.map_toArray, List.map_cons, List.map_nil, hs, hx, hr]
  exact h v' w' h2 (.alloc h3) h4
theorem opWp_append {P : Program} {w : World} {T E : TypeId} {size bytes : Nat} {z : Value} (hE : Elem P T E size bytes z) {B : Nat}
    {o : Oper} {a : Act} {K : Act → World → Prop} {Q : Exit → Act → World → Prop} (s x : Operand)
    (ho : o.op = .call { callee := .builtin .append, args := #[s, x], argTypes := #[T, T] })
    {v : Value} {n : Nat} {xs : List Value} (hown : Own w B E size v n xs) (hs : a.eval s = v) {ad : Addr} {m c : Nat} {news : List Value}
    (hx : a.eval x = .slice (some ad) m c) (hl : news.length = m * size) (hnews : ∀ j u, news[j]? = some u → w.cell? (ad.add j) = some u) (h1 : ∀ u ∈ news, u.oneCell' = true)
    (h63 : n + m ≤ 1099511627) (hbase : B ≤ w.heap.size)
    (h : ∀ v' w', Own w' B E size v' (n + m) (xs ++ news) → w.grownBy w' v.ownBlock → Moved w v v' → K (a.put o.dst v') w') : o.wp P a w K Q := by
  obtain ⟨v', w', hr, h2, h3, h4⟩ := append_run (ty := o.type) hE v n xs hown ad m c news hl hnews h1 h63 hbase
  unfold Oper.wp execOp
  simp only [ho, resolve, invoke, builtin, Sem.run_bind, Sem.run_pure, Result.andThen_ok, List.map_toArray, List.map_cons, List.map_nil, hs, hx, hr]
  exact h v' w' h2 h3 h4
theorem KeptBut.drawn {w w1 w' : World} {row : Option Nat} (h : KeptBut w1 w' row) (hd : Drawn w w1) : KeptBut w w' row := by
  obtain ⟨m, rfl⟩ := hd; exact h
theorem GSt.drawn {P : Program} {N cb B E' sb : Nat} {E FS : TypeId} {St : (Nat → Prop) → σ → World → Prop} {ef : List Nat → σ → σ × Bool} {K : List Nat → Prop} (HE : EachC P N cb B E St ef K) {w w' : World} {hv qv ev : Value} {p : List Nat} {s : σ}
    (h : GSt E FS St w E' sb hv qv ev p s) (hd : Drawn w w') : GSt E FS St w' E' sb hv qv ev p s := by
  obtain ⟨pv, F, h1, h2, h3, h4, h5, h6⟩ := h
  exact ⟨pv, F, h1.drawn hd, h2.drawn hd, h3, h4, fun b hb => by rw [hd.heap]; exact h5 b hb, HE.keep _ _ _ _ h6 (fun b _ => by rw [hd.heap])⟩
/-- The two stores into the search's memory. -/
theorem GSt.store {P : Program} {N cb B sb : Nat} {E FS : TypeId} {St : (Nat → Prop) → σ → World → Prop} {ef : List Nat → σ → σ × Bool} {K : List Nat → Prop} (HE : EachC P N cb B E St ef K) {w w' : World} {hv qv ev pv pv' : Value} {p' : List Nat} {s : σ} {F : Nat → Prop} {m : Value}
    (hrow : Own w B FS 5 (.slice (some ⟨sb, 0, none⟩) 1 1) 1 [hv, qv, pv, m, ev]) (hown : Own w' B E 1 pv' p'.length ((natsI p').map (.int .i64))) (hpF : ∀ b, pv'.ownBlock = some b → b ≠ sb ∧ ¬ F b) (hFs : ¬ F sb) (hFl : ∀ b, F b → B ≤ b ∧ b < w.heap.size)
    (hst : St F s w) (hk : ∀ b, b = sb ∨ F b → w'.heap[b]? = w.heap[b]?) (hsz : w.heap.size ≤ w'.heap.size) :
    GSt E FS St ((w'.setCell ⟨sb, 2, none⟩ pv').setCell ⟨sb, 3, none⟩ (.int .u32 (maskN p' : Int))) B sb hv qv ev p' s := by
  have hrow1 : Own w' B FS 5 (.slice (some ⟨sb, 0, none⟩) 1 1) 1 [hv, qv, pv, m, ev] := hrow.keep fun k hk2 => hk k (.inl (by simpa [Value.ownBlock] using hk2.symm))
  have hrow2 := (hrow1.stored 2 pv').stored 3 (.int .u32 (maskN p' : Int))
  have hset : ∀ b, b ≠ sb → ((w'.setCell ⟨sb, 2, none⟩ pv').setCell ⟨sb, 3, none⟩ (.int .u32 (maskN p' : Int))).heap[b]? = w'.heap[b]? := fun b hb =>
    (Below.heap_setCell _ _ _ _ (fun e => hb (by simpa [eq_comm] using e))).trans (Below.heap_setCell _ _ _ _ (fun e => hb (by simpa [eq_comm] using e)))
  refine ⟨pv', F, by simpa using hrow2, hown.keep fun k hk2 => hset k (hpF k hk2).1, hpF, hFs, fun b hb => ⟨(hFl b hb).1, ?_⟩, HE.keep _ _ _ _ hst fun b hb => ?_⟩
  · have := (hFl b hb).2; simp; omega
  · exact (hset b (fun e => hFs (e ▸ hb))).trans (hk b (.inr hb))
