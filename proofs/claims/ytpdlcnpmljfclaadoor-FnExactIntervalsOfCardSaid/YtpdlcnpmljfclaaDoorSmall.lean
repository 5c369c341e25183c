/- Small facts that stand beside the greater texts, so that a claim need not carry these. -/
import Derived.Test.YtpdlcnpmljfclaaDoorJoin
import Derived.Test.YtpdlcnpmljfclaaDoorReachM
import Derived.Test.YtpdlcnpmljfclaaDoorInto2
namespace Go.Proofs.YtpdlcnpmljfclaaDoor
open Go.RowKit
def IdxPS (b : Bool) (w : World) (e : Ending) (w' : World) : Prop := ∃ r : Int, e = .returned (.int .i64 r) ∧ (b = true → 0 ≤ r) ∧ (b = false → r < 0) ∧ Drawn w w'
theorem SlI.lowS {S : Nat → Prop} {w : World} {k : IntKind} {v : Value} {xs : List Int} (h : SlI S w k v xs) : SlI (fun b => b < w.heap.size) w k v xs := by
  obtain ⟨a, b, off, cap, rfl, hl, ha, hc⟩ := h
  exact ⟨a, b, off, cap, rfl, hl, fun h0 => ⟨(ha h0).1, cell_lt (hc 0 h0)⟩, hc⟩
theorem SlI.low3S {S : Nat → Prop} {w : World} {k : IntKind} {v : Value} {xs : List Int} (h : SlI S w k v xs) : SlI (fun b => S b ∧ b < w.heap.size) w k v xs := by
  obtain ⟨a, b, off, cap, rfl, hl, ha, hc⟩ := h
  exact ⟨a, b, off, cap, rfl, hl, fun h0 => ⟨(ha h0).1, (ha h0).2, cell_lt (hc 0 h0)⟩, hc⟩
theorem SlR.low3S {S : Nat → Prop} {w : World} {v : Value} {g : List (List Int)} (h : SlR S w v g) : SlR (fun b => S b ∧ b < w.heap.size) w v g := by
  obtain ⟨a, b, off, cap, f, rfl, hl, ha, hc⟩ := h
  exact ⟨a, b, off, cap, f, rfl, hl, fun h0 => ⟨(ha h0).1, (ha h0).2, cell_lt (hc 0 h0).1⟩, fun i hi => ⟨(hc i hi).1, (hc i hi).2.low3S⟩⟩
theorem GOk.rowlenS {g : List (List Int)} (hg : GOk g) {x : Nat} (hx : x < g.length) : g[x].length ≤ 32 := by
  have := bitsI_maskL (rise_sorted (hg.rise x hx)) (hg.ge32 hx)
  rw [← this]
  exact bitsI_len _
theorem own_typeS {w : World} {B B' : Nat} {E E' : TypeId} {s s' : Nat} {v v' : Value} {n n' : Nat} {xs xs' : List Value} (h : Own w B E s v n xs) (h' : Own w B' E' s' v' n' xs') (hE : E ≠ E') (b : Nat) (hb : v.ownBlock = some b) : v'.ownBlock ≠ some b := by
  intro hb'
  rcases h.2 with ⟨rfl, -⟩ | ⟨g, cap, cur, rfl, -, hg, -⟩
  · simp [Value.ownBlock] at hb
  · rcases h'.2 with ⟨rfl, -⟩ | ⟨g', cap', cur', rfl, -, hg', -⟩
    · simp [Value.ownBlock] at hb'
    · have e1 : g = b := by simpa [Value.ownBlock] using hb
      have e2 : g' = b := by simpa [Value.ownBlock] using hb'
      subst e1; subst e2
      rw [hg] at hg'
      simp only [Option.some.injEq, Obj.cells.injEq] at hg'
      exact hE hg'.2.1
theorem Own.otherT {w w' : World} {B B' : Nat} {E E' : TypeId} {s s' : Nat} {v u : Value} {n n' : Nat} {xs xs' : List Value} (h : Own w B E s v n xs) (h' : Own w B' E' s' u n' xs') (hE : E ≠ E') (hk : KeptBut w w' u.ownBlock) : Own w' B E s v n xs :=
  h.kept hk fun b hb => own_typeS h h' hE b hb
/-- append(s, x), one element of one cell, inside a region that draws its order. -/
theorem opWp_append1S {P : Program} {w : World} {T E : TypeId} {bytes : Nat} {z : Value} (hE : Elem P T E 1 bytes z) {B : Nat}
    {o : Oper} {a : Act} {K : Act → World → Prop} {Q : Exit → Act → World → Prop} (s x : Operand)
    (ho : o.op = .call { callee := .builtin .append, args := #[s, x], argTypes := #[T, T] })
    {v : Value} {n : Nat} {xs : List Value} (hown : Own w B E 1 v n xs) (hs : a.eval s = v) {u : Value} {nb : Nat} (hnb : nb = w.heap.size)
    (hx : a.eval x = .slice (some ⟨nb, 0, none⟩) 1 1) (h1 : u.oneCell' = true)
    (h63 : n + 1 ≤ 1099511627) (hbase : B ≤ w.heap.size)
    (h : ∀ v' w', Own w' B E 1 v' (n + 1) (xs ++ [u]) → KeptBut w w' v.ownBlock → Moved (w.alloc (.cells #[u] E)) v v' → K (a.put o.dst v') w') : o.wp P a (w.alloc (.cells #[u] E)) K Q := by
  subst hnb
  obtain ⟨v', w', hr, h2, h3, h4⟩ := append_run (w := w.alloc (.cells #[u] E)) (ty := o.type) hE v n xs (World.ownsRow.alloc hown _) ⟨w.heap.size, 0, none⟩ 1 1 [u] rfl (fun j u' hj => by
      match j, hj with
      | 0, hj => simp at hj; subst hj; simp [Addr.add])
    (fun u' hu' => by simp at hu'; subst hu'; exact h1) h63 (by simp; omega)
  unfold Oper.wp execOp
  simp only [ho, resolve, invoke, builtin, Sem.run_bind, Sem.run_pure, Result.andThen_ok, List.map_toArray, List.map_cons, List.map_nil, hs, hx, hr]
  exact h v' w' h2 (.alloc h3) h4
end Go.Proofs.YtpdlcnpmljfclaaDoor
