/- The reference's search for a pattern. -/
import Derived.Test.YtdbanndcdbikmaaGreatDoorDistM
import Derived.Test.YtdbanndcdbikmaaGreatDoorHeld
import Derived.Test.YtdbanndcdbikmaaGreatDoorLoopL
import Derived.Lib.SliceRun
import Derived.Test.YtdbanndcdbikmaaGreatDoorMod3
namespace Go.Proofs.YtdbanndcdbikmaaGreatDoor
open Go.RowKit

/-- Blocks outside F are as they were. -/
structure Keeps (F : Nat → Prop) (w w' : World) : Prop where
  os : w'.os = w.os
  tape : w'.tape = w.tape
  output : w'.output = w.output
  size : w.heap.size ≤ w'.heap.size
  block : ∀ b, b < w.heap.size → ¬ F b → w'.heap[b]? = w.heap[b]?
theorem Keeps.below {F : Nat → Prop} {w0 w w' : World} {B : Nat} (h : Keeps F w w') (hb : Below B w0 w) (hB : B ≤ w.heap.size) (hF : ∀ b, F b → B ≤ b) : Below B w0 w' :=
  hb.trans ⟨h.os, h.tape, h.output, h.size, fun b hb2 => h.block b (by omega) (fun hf => by have := hF b hf; omega)⟩
variable {σ : Type}
/-- What is called at the end of a path: a function value with one captured variable. -/
structure EachC (P : Program) (N cb B : Nat) (E : TypeId) (St : (Nat → Prop) → σ → World → Prop) (ef : List Nat → σ → σ × Bool) (K : List Nat → Prop := fun _ => True) : Prop where
  call : ∀ (F : Nat → Prop) (s : σ) (pv : Value) (p : List Nat) (w : World), St F s w → Own w B E 1 pv p.length ((natsI p).map (.int .i64)) → (∀ b, pv.ownBlock = some b → ¬ F b) → (∀ b, F b → b < w.heap.size) → B ≤ w.heap.size → p.length ≤ 16 → K p →
    Calls P N #[pv, .pointer (some ⟨cb, 0, none⟩)] w fun e w' => ∃ F' : Nat → Prop, e = .returned (.bool (ef p s).2) ∧ St F' (ef p s).1 w' ∧ (∀ b, F' b → F b ∨ w.heap.size ≤ b) ∧ (∀ b, F' b → b < w'.heap.size) ∧ Keeps F w w'
  ent : ∀ (args : Array Value) (w : World), (callFunc N args).run P w = .ok (.enter N args) w
  keep : ∀ (F : Nat → Prop) (s : σ) (w w' : World), St F s w → (∀ b, F b → w'.heap[b]? = w.heap[b]?) → St F s w'
/-- The search's own memory. -/
def GSt (E FS : TypeId) (St : (Nat → Prop) → σ → World → Prop) (w : World) (B sb : Nat) (hv qv ev : Value) (p : List Nat) (s : σ) : Prop :=
  ∃ (pv : Value) (F : Nat → Prop), Own w B FS 5 (.slice (some ⟨sb, 0, none⟩) 1 1) 1 [hv, qv, pv, .int .u32 (maskN p : Int), ev] ∧ Own w B E 1 pv p.length ((natsI p).map (.int .i64)) ∧ (∀ b, pv.ownBlock = some b → b ≠ sb ∧ ¬ F b) ∧ ¬ F sb ∧ (∀ b, F b → B ≤ b ∧ b < w.heap.size) ∧ St F s w
def GPost (E FS : TypeId) (St : (Nat → Prop) → σ → World → Prop) (w : World) (B sb : Nat) (hv qv ev : Value) (p : List Nat) (r : σ × Bool) (e : Ending) (w' : World) : Prop :=
  e = .returned (.bool r.2) ∧ GSt E FS St w' B sb hv qv ev p r.1 ∧ Below B w w'
theorem row5 {w : World} {B sb : Nat} {FS : TypeId} {a b c d e : Value} (h : Own w B FS 5 (.slice (some ⟨sb, 0, none⟩) 1 1) 1 [a, b, c, d, e]) :
    w.cell? ⟨sb, 0, none⟩ = some a ∧ w.cell? ⟨sb, 1, none⟩ = some b ∧ w.cell? ⟨sb, 2, none⟩ = some c ∧ w.cell? ⟨sb, 3, none⟩ = some d ∧ w.cell? ⟨sb, 4, none⟩ = some e ∧ (∀ j, w.frozen? ⟨sb, j, none⟩ = false) ∧ B ≤ sb ∧ sb < w.heap.size :=
  ⟨World.ownsRow.cellAt h 0 (by omega), World.ownsRow.cellAt h 1 (by omega), World.ownsRow.cellAt h 2 (by omega), World.ownsRow.cellAt h 3 (by omega), World.ownsRow.cellAt h 4 (by omega), fun j => World.ownsRow.frozenAt h j, (h.lt sb rfl).1, (h.lt sb rfl).2⟩
theorem natsI_append (a b : List Nat) : natsI (a ++ b) = natsI a ++ natsI b := by simp [natsI]
theorem SlI.below_lt {w w' : World} {B : Nat} {k : IntKind} {v : Value} {xs : List Int} (h : SlI (fun b => b < B) w k v xs) (hb : Below B w w') : SlI (fun b => b < B) w' k v xs := h.keep fun b hlt => hb.block b hlt
/-- append(s, x), one element of one cell, inside a region that draws its order. -/
theorem opWp_append1 {P : Program} {w : World} {T E : TypeId} {bytes : Nat} {z : Value} (hE : Elem P T E 1 bytes z) {B : Nat}
    {o : Oper} {a : Act} {K : Act → World → Prop} {Q : Exit → Act → World → Prop} (s x : Operand)
    (ho : o.op = .call { callee := .builtin .append, args := #[s, x], argTypes := #[T, T] })
    {v : Value} {n : Nat} {xs : List Value} (hown : Own w B E 1 v n xs) (hs : a.eval s = v) {u : Value} {nb : Nat} (hnb : nb = w.heap.size)
    (hx : a.eval x = .slice (some ⟨nb, 0, none⟩) 1 1) (h1 : u.oneCell' = true)
    (h63 : n + 1 ≤ 1099511627) (hbase : B ≤ w.heap.size)
    (h : ∀ v' w', Own w' B E 1 v' (n + 1) (xs ++ [u]) → KeptBut w w' v.ownBlock → Moved (w.alloc (.cells #[u] E)) v v' → K (a.put o.dst v') w') : o.wp P a (w.alloc (.cells #[u] E)) K Q := by
  subst hnb
  obtain ⟨v', w', hr, h2, h3, h4⟩ := append_run (w := w.alloc (.cells #[u] E)) (ty := o.type) hE v n xs (World.ownsRow.alloc hown _) ⟨w.heap.size, 0, none⟩ 1 1 [u] rfl (fun j u' hj => by
      match j, hj with
      | 0, hj => simp at hj; subst hj; simp [Addr.add])
    (fun u' hu' => by simp at hu'; subst hu'; exact h1) h63 (by simp; omega)
  unfold Oper.wp execOp
  simp only [ho, resolve, invoke, builtin, Sem.run_bind, Sem.run_pure, Result.andThen_ok, List.map_toArray, List.map_cons, List.map_nil, hs, hx, hr]
  exact h v' w' h2 (.alloc h3) h4
theorem opWp_append {P : Program} {w : World} {T E : TypeId} {size bytes : Nat} {z : Value} (hE : Elem P T E size bytes z) {B : Nat}
    {o : Oper} {a : Act} {K : Act → World → Prop} {Q : Exit → Act → World → Prop} (s x : Operand)
    (ho : o.op = .call { callee := .builtin .append, args := #[s, x], argTypes := #[T, T] })
    {v : Value} {n : Nat} {xs : List Value} (hown : Own w B E size v n xs) (hs : a.eval s = v) {ad : Addr} {m c : Nat} {news : List Value}
    (hx : a.eval x = .slice (some ad) m c) (hl : news.length = m * size) (hnews : ∀ j u, news[j]? = some u → w.cell? (ad.add j) = some u) (h1 : ∀ u ∈ news, u.oneCell' = true)
    (h63 : n + m ≤ 1099511627) (hbase : B ≤ w.heap.size)
    (h : ∀ v' w', Own w' B E size v' (n + m) (xs ++ news) → w.grownBy w' v.ownBlock → Moved w v v' → K (a.put o.dst v') w') : o.wp P a w K Q := by
  obtain ⟨v', w', hr, h2, h3, h4⟩ := append_run (ty := o.type) hE v n xs hown ad m c news hl hnews h1 h63 hbase
  unfold Oper.wp execOp
  simp only [ho, resolve, invoke, builtin, Sem.run_bind, Sem.run_pure, Result.andThen_ok, List.map_toArray, List.map_cons, List.map_nil, hs, hx, hr]
  exact h v' w' h2 h3 h4
theorem KeptBut.drawn {w w1 w' : World} {row : Option Nat} (h : KeptBut w1 w' row) (hd : Drawn w w1) : KeptBut w w' row := by
  obtain ⟨m, rfl⟩ := hd; exact h
theorem GSt.drawn {P : Program} {N cb B E' sb : Nat} {E FS : TypeId} {St : (Nat → Prop) → σ → World → Prop} {ef : List Nat → σ → σ × Bool} {K : List Nat → Prop} (HE : EachC P N cb B E St ef K) {w w' : World} {hv qv ev : Value} {p : List Nat} {s : σ}
    (h : GSt E FS St w E' sb hv qv ev p s) (hd : Drawn w w') : GSt E FS St w' E' sb hv qv ev p s := by
  obtain ⟨pv, F, h1, h2, h3, h4, h5, h6⟩ := h
  exact ⟨pv, F, h1.drawn hd, h2.drawn hd, h3, h4, fun b hb => by rw [hd.heap]; exact h5 b hb, HE.keep _ _ _ _ h6 (fun b _ => by rw [hd.heap])⟩
/-- The two stores into the search's memory. -/
theorem GSt.store {P : Program} {N cb B sb : Nat} {E FS : TypeId} {St : (Nat → Prop) → σ → World → Prop} {ef : List Nat → σ → σ × Bool} {K : List Nat → Prop} (HE : EachC P N cb B E St ef K) {w w' : World} {hv qv ev pv pv' : Value} {p' : List Nat} {s : σ} {F : Nat → Prop} {m : Value}
    (hrow : Own w B FS 5 (.slice (some ⟨sb, 0, none⟩) 1 1) 1 [hv, qv, pv, m, ev]) (hown : Own w' B E 1 pv' p'.length ((natsI p').map (.int .i64))) (hpF : ∀ b, pv'.ownBlock = some b → b ≠ sb ∧ ¬ F b) (hFs : ¬ F sb) (hFl : ∀ b, F b → B ≤ b ∧ b < w.heap.size)
    (hst : St F s w) (hk : ∀ b, b = sb ∨ F b → w'.heap[b]? = w.heap[b]?) (hsz : w.heap.size ≤ w'.heap.size) :
    GSt E FS St ((w'.setCell ⟨sb, 2, none⟩ pv').setCell ⟨sb, 3, none⟩ (.int .u32 (maskN p' : Int))) B sb hv qv ev p' s := by
  have hrow1 : Own w' B FS 5 (.slice (some ⟨sb, 0, none⟩) 1 1) 1 [hv, qv, pv, m, ev] := hrow.keep fun k hk2 => hk k (.inl (by simpa [Value.ownBlock] using hk2.symm))
  have hrow2 := (hrow1.stored 2 pv').stored 3 (.int .u32 (maskN p' : Int))
  have hset : ∀ b, b ≠ sb → ((w'.setCell ⟨sb, 2, none⟩ pv').setCell ⟨sb, 3, none⟩ (.int .u32 (maskN p' : Int))).heap[b]? = w'.heap[b]? := fun b hb =>
    (Below.heap_setCell _ _ _ _ (fun e => hb (by simpa [eq_comm] using e))).trans (Below.heap_setCell _ _ _ _ (fun e => hb (by simpa [eq_comm] using e)))
  refine ⟨pv', F, by simpa using hrow2, hown.keep fun k hk2 => hset k (hpF k hk2).1, hpF, hFs, fun b hb => ⟨(hFl b hb).1, ?_⟩, HE.keep _ _ _ _ hst fun b hb => ?_⟩
  · have := (hFl b hb).2; simp; omega
  · exact (hset b (fun e => hFs (e ▸ hb))).trans (hk b (.inr hb))

theorem Own.noneOrSome {w : World} {B : Nat} {E : TypeId} {size : Nat} {v : Value} {n : Nat} {xs : List Value} (h : Own w B E size v n xs) : (v = .slice none 0 0 ∧ n = 0) ∨ ∃ g c, v = .slice (some ⟨g, 0, none⟩) n c := by
  rcases h.2 with ⟨rfl, rfl⟩ | ⟨g, cap, cur, rfl, _⟩
  · exact .inl ⟨rfl, rfl⟩
  · exact .inr ⟨g, cap, rfl⟩
theorem own_cell {w : World} {B : Nat} {E : TypeId} {b : Nat} {v : Value} (h : Own w B E 1 (.slice (some ⟨b, 0, none⟩) 1 1) 1 [v]) : w.cell? ⟨b, 0, none⟩ = some v ∧ w.frozen? ⟨b, 0, none⟩ = false ∧ B ≤ b ∧ b < w.heap.size :=
  ⟨World.ownsRow.cellAt h 0 (by omega), World.ownsRow.frozenAt h 0, (h.lt b rfl).1, (h.lt b rfl).2⟩
theorem run_enter {P : Program} {f : FuncId} {fn : Func} {c : Code} (hf : P.funcs[f]? = some fn) (hname : (fn.name == "runtime.NumGoroutine") = false) (hb : fn.body = some c) (args : Array Value) (w : World) :
    (callFunc f args).run P w = .ok (.enter f args) w := by
  have h1 : fn.name ≠ "runtime.NumGoroutine" := by simpa using hname
  simp [callFunc, hf, h1, hb]
theorem own_new (w : World) (B : Nat) (E : TypeId) (v : Value) (hB : B ≤ w.heap.size) : Own (w.alloc (.cells #[v] E)) B E 1 (.slice (some ⟨w.heap.size, 0, none⟩) 1 1) 1 [v] :=
  World.ownsRow_lit (base := B) (e := E) (size := 1) w #[v] 1 hB (by unfold maxLen; omega) rfl
theorem own_set {w : World} {B : Nat} {E : TypeId} {b : Nat} {v : Value} (h : Own w B E 1 (.slice (some ⟨b, 0, none⟩) 1 1) 1 [v]) (u : Value) : Own (w.setCell ⟨b, 0, none⟩ u) B E 1 (.slice (some ⟨b, 0, none⟩) 1 1) 1 [u] := by
  have := h.stored 0 u; simpa using this
theorem nilInts : ∀ (w : World) (a : Option Addr) (n c n' c' : Nat), (binOp .eql 57 (.slice a n c) (.slice none n' c')).run Tryz.prog w = .ok (.bool a.isNone) w := fun w a n c n' c' => Lib.run_eql_slice_nil w _ _ a n c n' c' Tryz.underlying57
set_option maxHeartbeats 1000000 in
theorem cloneI_any {B : Nat} {v : Value} {n : Nat} {xs : List Int} {w : World} (hv : Own w B 3 1 v n (xs.map (.int .i64))) (hn : n ≤ 1048576) :
    Calls Tryz.prog 130 #[v] w fun e w' => ∃ u, e = .returned u ∧ Own w' w.heap.size 3 1 u n (xs.map (.int .i64)) ∧ Below w.heap.size w w' := by
  have hln : xs.length = n := by have := hv.1; simpa using this
  have q := nilInts
  rcases hv.noneOrSome with ⟨rfl, rfl⟩ | ⟨g, c, rfl⟩
  · have hx : xs = [] := List.eq_nil_of_length_eq_zero hln
    subst hx
    go_enter Tryz.func130, Tryz.ntmps130
    go_wp2
    go_ret
    exact ⟨_, rfl, Own.nil _ _ _ _, Below.refl _ _⟩
  · have hq0 : Below w.heap.size w (w.alloc (.cells #[] 3)) := (Below.refl _ _).alloc (Nat.le_refl _) _
    have hi := (hv.ints (by omega)).below hq0 (Nat.le_refl _)
    obtain ⟨a, b, off, cap, he, hl, ha, hc⟩ := hi
    have hown : Own (w.alloc (.cells #[] 3)) w.heap.size 3 1 (.slice (some ⟨w.heap.size, 0, none⟩) 0 0) 0 [] := World.ownsRow_lit (base := w.heap.size) (e := 3) (size := 1) w #[] 0 (Nat.le_refl _) (by unfold maxLen; omega) rfl
    by_cases h0 : n = 0
    · subst h0
      have hx : xs = [] := List.eq_nil_of_length_eq_zero hln
      subst hx
      go_enter Tryz.func130, Tryz.ntmps130
      go_wp2_with (at_builtin; refine wpList_append0 elInt rfl _ _ rfl hown rfl rfl ?_)
      go_ret
      exact ⟨_, rfl, hown, hq0⟩
    · simp only [Value.slice.injEq] at he
      obtain ⟨rfl, he2, rfl⟩ := he
      have ha2 := (ha (by omega)).1
      simp only [Option.some.injEq, Addr.mk.injEq, and_true] at ha2
      obtain ⟨rfl, rfl⟩ := ha2
      have hnews := hc.news
      clear he2
      go_enter Tryz.func130, Tryz.ntmps130
      go_wp2_with (at_builtin; refine wpList_append elInt rfl _ _ rfl hown rfl (news := xs.map (.int .i64)) rfl (by simp [hln]) hnews ints_one (by omega) (by simp) ?_; intro v' w1 hown1 hgr hmv; have hq1 := (KeptBut.of_grown hgr).below hq0 (by simp) hown.ge)
      go_ret
      refine ⟨_, rfl, ?_, hq1⟩
      simpa using hown1
theorem SlI.low {S : Nat → Prop} {w : World} {k : IntKind} {v : Value} {xs : List Int} (h : SlI S w k v xs) : SlI (fun b => b < w.heap.size) w k v xs := by
  obtain ⟨a, b, off, cap, rfl, hl, ha, hc⟩ := h
  exact ⟨a, b, off, cap, rfl, hl, fun h0 => ⟨(ha h0).1, hc.lt h0⟩, hc⟩
/-- A found path as an own slice of the call. -/
def FoundP (E : TypeId) (f : Option (List Nat)) (w : World) (e : Ending) (w' : World) : Prop := ∃ u, e = .returned u ∧ (f = none → u = .slice none 0 0) ∧ Own w' w.heap.size E 1 u (f.getD []).length ((natsI (f.getD [])).map (.int .i64)) ∧ Below w.heap.size w w'
def fitO (H Q : List Nat) : Option (List Nat) := (srchF H Q fitEf Q.length [] none).1
noncomputable def smallB (g : List (List Int)) : Bool := gokB g && decide (g.length ≤ 8)
theorem isSmall_any {S : Nat → Prop} {v : Value} {g : List (List Int)} {w : World} (hv : SlR S w v g) : Calls Tryz.prog 47 #[.agg #[v]] w fun e w' => e = .returned (.bool (smallB g)) ∧ Below w.heap.size w w' := by
  have hb : Below w.heap.size w (w.alloc (.cells #[v] 26)) := (Below.refl _ _).alloc (Nat.le_refl _) _
  obtain ⟨va, vc, rfl⟩ := hv.slice
  have hgo := implGraphOk_any _ _ _ (hv.below hb (Nat.le_refl _))
  have hlen := hv.len
  by_cases hg : gokB g = true
  · rw [hg] at hgo
    have hs : decide (g.length ≤ 8) = smallB g := by simp [smallB, hg]
    have HS := Lib.hid hs; clear hs hg
    go_enter Tryz.func47, Tryz.ntmps47
    go_wp2_with fail
    refine hgo.mono ?_
    rintro e w1 ⟨rfl, hb1⟩
    have c1 : w1.cell? ⟨w.heap.size, 0, none⟩ = some (.slice va g.length vc) := (hb1.cell (p := ⟨w.heap.size, 0, none⟩) (by simp)).trans (by simp [go_sem])
    clear hgo
    go_wp2
    go_ret
    exact ⟨ret_bool (by rw [← HS.out]; first | rfl | (simp; omega)), hb.trans (hb1.mono hb.size)⟩
  · have hg' : gokB g = false := by simpa using hg
    rw [hg'] at hgo
    have HS := Lib.hid (show smallB g = false by simp [smallB, hg']); clear hg hg'
    go_enter Tryz.func47, Tryz.ntmps47
    go_wp2_with fail
    refine hgo.mono ?_
    rintro e w1 ⟨rfl, hb1⟩
    clear hgo
    go_wp2
    go_ret
    exact ⟨ret_bool HS.out.symm, hb.trans (hb1.mono hb.size)⟩
theorem Own.made0 (w : World) (B : Nat) (E : TypeId) (z : Value) (n : Nat) (hB : B ≤ w.heap.size) (hn : n ≤ 1099511627) : Own (w.alloc (.cells (madeCells #[z] n) E)) B E 1 (.slice (some ⟨w.heap.size, 0, none⟩) 0 n) 0 [] := by
  have h := Own.reslice (Own.made w B E z n hB hn) (m := 0) (Nat.zero_le _)
  simpa using h
theorem make_cap (n : Nat) (hn : n ≤ 1048576) (w : World) : (Instr.makeSlice 36 (.int .i64 0) (.int .i64 (n : Int))).run Tryz.prog w = .ok (.slice (some ⟨w.heap.size, 0, none⟩) 0 n) (w.alloc (.cells (madeCells #[.int .i64 0] n) 2)) := by
  obtain ⟨i, hi, hzz⟩ := Option.map_eq_some_iff.1 elI64.hi
  simp only [Prod.mk.injEq] at hzz
  obtain ⟨hz, hs, hb⟩ := hzz
  have := run_make (P := Tryz.prog) (w := w) 36 2 i (.int .i64 0) elI64.ht hi hz .i64 .i64 0 n (by omega) (by omega) (by rw [hb]; omega) (by omega)
  simpa [hs, Value.cells] using this
set_option maxHeartbeats 1000000 in
theorem wide_any {S : Nat → Prop} {v : Value} {xs : List Int} {w : World} (hv : SlI S w .i64 v xs) (hn : xs.length ≤ 1048576) :
    Calls Tryz.prog 30 #[v] w fun e w' => ∃ u, e = .returned u ∧ Own w' w.heap.size 2 1 u xs.length (xs.map (.int .i64)) ∧ Below w.heap.size w w' := by
  obtain ⟨va, vc, rfl⟩ := hv.slice
  have hmk := make_cap xs.length hn
  go_enter Tryz.func30, Tryz.ntmps30
  go_wp2
  clear hmk
  go_loopw [11, 3] (fun i o wr => ∃ k : Nat, k ≤ xs.length ∧ i = .int .i64 k ∧ Own wr w.heap.size 2 1 o k ((xs.take k).map (.int .i64)) ∧ Below w.heap.size w wr) (fun i _ _ => xs.length - (intOf i).toNat)
  case atStart => exact ⟨0, Nat.zero_le _, rfl, by simpa using Own.made0 w w.heap.size 2 (.int .i64 0) xs.length (Nat.le_refl _) (by omega), (Below.refl _ _).alloc (Nat.le_refl _) _⟩
  case round =>
    obtain ⟨k, hk, rfl, hown, hq⟩ := hrel
    have hB := hq.size
    by_cases hlt : k < xs.length
    · obtain ⟨b, off, cap, he, hc⟩ := (hv.below hq (Nat.le_refl _)).at_
      have he := he (by omega)
      simp only [Value.slice.injEq, true_and] at he
      obtain ⟨rfl, rfl⟩ := he
      have hcell := hc k hlt
      clear hc
      have HT := Lib.hid (List.take_succ_eq_append_getElem hlt)
      go_wp2_with (at_builtin; refine wpList_append1 elI64 rfl _ _ rfl hown rfl rfl rfl (by omega) hB ?_; intro v' w1 hown1 hkept hmv)
      go_roundw
      case rel => exact ⟨k + 1, by omega, by go_num, by rw [HT.out, List.map_append]; exact hown1, hkept.below hq hB hown.ge⟩
      case measure => simp [intOf]; omega
    · obtain rfl : k = xs.length := by omega
      rw [List.take_length] at hown
      go_wp2
      go_ret
      exact ⟨_, rfl, hown, hq⟩
/-- Does a vertex fit behind a list: by the lists of neighbours. -/
def okGTo (g p : List (List Int)) (q : List Nat) (v k : Nat) : Bool := (List.range k).all fun j => decide ((q.length : Int) ∈ p.getD j []) == decide ((v : Int) ∈ g.getD (q.getD j 0) [])
theorem okGTo_succ (g p : List (List Int)) (q : List Nat) (v k : Nat) : okGTo g p q v (k + 1) = (okGTo g p q v k && (decide ((q.length : Int) ∈ p.getD k []) == decide ((v : Int) ∈ g.getD (q.getD k 0) []))) := by
  unfold okGTo; rw [List.range_succ, List.all_append]; simp
theorem netsL_get' {g : List (List Int)} {v : Nat} (hv : v < g.length) : (netsL g).getD v 0 = maskL g[v] := by simp [netsL, hv]
theorem all_congr' {l : List Nat} {f h : Nat → Bool} (H : ∀ x ∈ l, f x = h x) : l.all f = l.all h := by
  induction l with
  | nil => rfl
  | cons a l ih => rw [List.all_cons, List.all_cons, H a (by simp), ih (fun x hx => H x (by simp [hx]))]
theorem nets_bit {g : List (List Int)} (hg : GOk g) {u v : Nat} (hu : u < g.length) : ((netsL g).getD u 0).testBit v = decide ((v : Int) ∈ g.getD u []) := by
  rw [netsL_get' hu, testBit_maskL (fun x hx => (hg.ge hu x hx).1)]
  simp [hu]
theorem edge_symm {g : List (List Int)} (hg : GOk g) {u v : Nat} (hu : u < g.length) (hv : v < g.length) : ((v : Int) ∈ g.getD u []) ↔ ((u : Int) ∈ g.getD v []) := by
  have e1 : g.getD u [] = g[u] := by simp [hu]
  have e2 : g.getD v [] = g[v] := by simp [hv]
  constructor
  · intro h; rw [e1] at h; have := hg.symm u hu _ h; simpa using this
  · intro h; rw [e2] at h; have := hg.symm v hv _ h; simpa using this
theorem okG_eq {g p : List (List Int)} (hg : GOk g) (hp : GOk p) {q : List Nat} {v : Nat} (hq : ∀ a ∈ q, a < g.length) (hl : q.length < p.length) (hv : v < g.length) :
    (!decide (v ∈ q) && okGTo g p q v q.length) = okB (netsL g) (netsL p) q v := by
  unfold okB
  congr 1
  unfold okGTo fitTo
  apply all_congr'
  intro j hj
  have hj := List.mem_range.1 hj
  have hqj : q.getD j 0 < g.length := by
    have : q.getD j 0 = q[j] := by simp [hj]
    rw [this]; exact hq _ (List.getElem_mem hj)
  rw [nets_bit hg hv, nets_bit hp hl]
  have h1 : decide ((q.length : Int) ∈ p.getD j []) = decide ((j : Int) ∈ p.getD q.length []) := decide_eq_decide.2 (edge_symm hp (by omega) hl)
  have h2 : decide ((v : Int) ∈ g.getD (q.getD j 0) []) = decide (((q.getD j 0 : Nat) : Int) ∈ g.getD v []) := decide_eq_decide.2 (edge_symm hg hqj hv)
  rw [h1, h2, Bool.beq_comm]
theorem srch_fit (H Q : List Nat) : ∀ (d : Nat) (q : List Nat) (s : Option (List Nat)), ((srchF H Q fitEf d q s).2 = false ∧ (srchF H Q fitEf d q s).1 = s) ∨ ((srchF H Q fitEf d q s).2 = true ∧ ∃ r, (srchF H Q fitEf d q s).1 = some r ∧ r.length = q.length + d)
  | 0, q, s => .inr ⟨rfl, q, rfl, rfl⟩
  | d + 1, q, s => by
    rw [srchF]
    have : ∀ (l : List Nat), ((loopS (fun v s => if okB H Q q v = true then srchF H Q fitEf d (q ++ [v]) s else (s, false)) l s).2 = false ∧ (loopS (fun v s => if okB H Q q v = true then srchF H Q fitEf d (q ++ [v]) s else (s, false)) l s).1 = s) ∨
        ((loopS (fun v s => if okB H Q q v = true then srchF H Q fitEf d (q ++ [v]) s else (s, false)) l s).2 = true ∧ ∃ r, (loopS (fun v s => if okB H Q q v = true then srchF H Q fitEf d (q ++ [v]) s else (s, false)) l s).1 = some r ∧ r.length = q.length + (d + 1)) := by
      intro l
      induction l with
      | nil => exact .inl ⟨rfl, rfl⟩
      | cons v l ih =>
        rw [loopS]
        by_cases hok : okB H Q q v = true
        · simp only [hok, if_true]
          rcases srch_fit H Q d (q ++ [v]) s with ⟨h1, h2⟩ | ⟨h1, r, h2, h3⟩
          · simp only [h1, Bool.false_eq_true, if_false, h2]; exact ih
          · simp only [h1, if_true]
            exact .inr ⟨trivial, r, h2, by rw [h3]; simp; omega⟩
        · simp only [hok, if_false, Bool.false_eq_true]; exact ih
    exact this _
/-- What the search finds, as a list. -/
def embL (g p : List (List Int)) (d : Nat) (q : List Nat) : List Nat := ((srchF (netsL g) (netsL p) fitEf d q none).1).getD []
theorem l1Size_any {S : Nat → Prop} {v : Value} {g : List (List Int)} {w : World} (hv : SlR S w v g) : Calls Tryz.prog 82 #[.agg #[v]] w fun e w' => e = .returned (.int .i64 (g.length : Int)) ∧ Below w.heap.size w w' := by
  have hb : Below w.heap.size w (w.alloc (.cells #[v] 26)) := (Below.refl _ _).alloc (Nat.le_refl _) _
  have hlen := hv.len
  obtain ⟨va, vc, rfl⟩ := hv.slice
  go_enter Tryz.func82, Tryz.ntmps82
  go_wp2
  go_ret
  exact ⟨rfl, hb⟩
