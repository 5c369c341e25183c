/- The least loop of some lengths, by the program. -/
import Derived.Test.YtdbanndcdbikmaaGreatDoorLoopL
import Derived.Test.YtdbanndcdbikmaaGreatDoorFit4
import Derived.Test.YtdbanndcdbikmaaGreatDoorDist3
namespace Go.Proofs.YtdbanndcdbikmaaGreatDoor
open Go.RowKit
theorem quiet_same2 {P : Program} {f : FuncId} {args : Array Value} {w : World} {k n : Nat} {v : Value}
    (h : Calls P f args (w.drewN (k + n)) fun e w' => e = .returned v ∧ w.drewN (k + n) = w') : Calls P f args (w.drewN (k + n)) fun e w'' => e = .returned v ∧ ∃ m, w'' = w.drewN (k + m) :=
  h.mono fun _ _ ⟨he, hm⟩ => ⟨he, n, hm.symm⟩
/-- Distances, by a list. -/
def farF (Dl : List Int) (u : Nat) : Int := Dl.getD u 0
theorem farF_get {Dl : List Int} {v : Nat} (h : v < Dl.length) : farF Dl v = Dl[v] := by simp [farF, h]
/-- What is protected is as it was. -/
def XK (X : Nat → Prop) (w0 w : World) : Prop := w0.heap.size ≤ w.heap.size ∧ ∀ b, X b → w.heap[b]? = w0.heap[b]?
theorem XK.refl (X : Nat → Prop) (w : World) : XK X w w := ⟨Nat.le_refl _, fun _ _ => rfl⟩
theorem XK.keeps {X F : Nat → Prop} {w0 w w' : World} (h : XK X w0 w) (k : Keeps F w w') (hX : ∀ b, X b → b < w0.heap.size ∧ ¬ F b) : XK X w0 w' :=
  ⟨Nat.le_trans h.1 k.size, fun b hb => (k.block b (Nat.lt_of_lt_of_le (hX b hb).1 h.1) (hX b hb).2).trans (h.2 b hb)⟩
theorem Keeps.refl (F : Nat → Prop) (w : World) : Keeps F w w := ⟨rfl, rfl, rfl, Nat.le_refl _, fun _ _ _ => rfl⟩
theorem Keeps.trans {F : Nat → Prop} {a b c : World} (h : Keeps F a b) {G : Nat → Prop} (k : Keeps G b c) (hG : ∀ x, x < a.heap.size → G x → F x) : Keeps F a c :=
  ⟨k.os.trans h.os, k.tape.trans h.tape, k.output.trans h.output, Nat.le_trans h.size k.size, fun x hx hF => (k.block x (Nat.lt_of_lt_of_le hx h.size) (fun hg => hF (hG x hx hg))).trans (h.block x hx hF)⟩
theorem Keeps.ofBelow {w w' : World} (F : Nat → Prop) (h : Below w.heap.size w w') : Keeps F w w' := ⟨h.os, h.tape, h.output, h.size, fun b hb _ => h.block b hb⟩
theorem Keeps.ofDrawn {w w' : World} (F : Nat → Prop) (h : Drawn w w') : Keeps F w w' := Keeps.ofBelow F (h.below _)
theorem Keeps.ofKept {w w' : World} {r : Option Nat} {F : Nat → Prop} (h : KeptBut w w' r) (hr : ∀ b, r = some b → F b) : Keeps F w w' :=
  ⟨h.1, h.2.1, h.2.2.1, h.2.2.2.1, fun b hb hF => h.2.2.2.2 b hb (fun e => hF (hr b e.symm))⟩
theorem Keeps.set {w : World} {F : Nat → Prop} {a : Addr} (hF : F a.block) (v : Value) : Keeps F w (w.setCell a v) :=
  ⟨rfl, rfl, rfl, by simp, fun b hb hn => Below.heap_setCell _ _ _ _ (fun e => hn (by rw [e]; exact hF))⟩
/-- The search's own memory: its block, the path in a block of its own. -/
structure GL (X : Nat → Prop) (E FS : TypeId) (w : World) (B sb : Nat) (av fv fit : Value) (L : Nat) (pv : Value) (p : List Nat) : Prop where
  row : Own w B FS 6 (.slice (some ⟨sb, 0, none⟩) 1 1) 1 [av, fv, .int .i64 (L : Int), pv, .int .u32 (maskN p : Int), fit]
  own : Own w B E 1 pv p.length ((natsI p).map (.int .i64))
  ne : ∀ b, pv.ownBlock = some b → b ≠ sb ∧ ¬ X b
  nx : ¬ X sb
theorem row6 {w : World} {B sb : Nat} {FS : TypeId} {a b c d e f : Value} (h : Own w B FS 6 (.slice (some ⟨sb, 0, none⟩) 1 1) 1 [a, b, c, d, e, f]) :
    w.cell? ⟨sb, 0, none⟩ = some a ∧ w.cell? ⟨sb, 1, none⟩ = some b ∧ w.cell? ⟨sb, 2, none⟩ = some c ∧ w.cell? ⟨sb, 3, none⟩ = some d ∧ w.cell? ⟨sb, 4, none⟩ = some e ∧ w.cell? ⟨sb, 5, none⟩ = some f ∧ (∀ j, w.frozen? ⟨sb, j, none⟩ = false) ∧ B ≤ sb ∧ sb < w.heap.size :=
  ⟨World.ownsRow.cellAt h 0 (by omega), World.ownsRow.cellAt h 1 (by omega), World.ownsRow.cellAt h 2 (by omega), World.ownsRow.cellAt h 3 (by omega), World.ownsRow.cellAt h 4 (by omega), World.ownsRow.cellAt h 5 (by omega), fun j => World.ownsRow.frozenAt h j, (h.lt sb rfl).1, (h.lt sb rfl).2⟩
theorem GL.keeps {X : Nat → Prop} {E FS : TypeId} {w w' : World} {B sb : Nat} {av fv fit pv : Value} {L : Nat} {p : List Nat} (h : GL X E FS w B sb av fv fit L pv p) {F : Nat → Prop} (k : Keeps F w w') (h1 : ¬ F sb) (h2 : ∀ b, pv.ownBlock = some b → ¬ F b) : GL X E FS w' B sb av fv fit L pv p :=
  ⟨h.row.keep fun b hb => k.block b (h.row.lt b hb).2 (by (have : sb = b := by simpa [Value.ownBlock] using hb); rw [← this]; exact h1), h.own.keep fun b hb => k.block b (h.own.lt b hb).2 (h2 b hb), h.ne, h.nx⟩
theorem GL.below {X : Nat → Prop} {E FS : TypeId} {w w' : World} {B sb : Nat} {av fv fit pv : Value} {L : Nat} {p : List Nat} (h : GL X E FS w B sb av fv fit L pv p) (k : Below w.heap.size w w') : GL X E FS w' B sb av fv fit L pv p :=
  h.keeps (F := fun _ => False) (Keeps.ofBelow _ k) (fun h => h) (fun _ _ h => h)
/-- The two stores into the search's memory. -/
theorem GL.store {X : Nat → Prop} {E FS : TypeId} {w' : World} {B sb : Nat} {av fv fit pv pv' m : Value} {L : Nat} {p' : List Nat}
    (hrow : Own w' B FS 6 (.slice (some ⟨sb, 0, none⟩) 1 1) 1 [av, fv, .int .i64 (L : Int), pv, m, fit]) (hown : Own w' B E 1 pv' p'.length ((natsI p').map (.int .i64))) (hne : ∀ b, pv'.ownBlock = some b → b ≠ sb ∧ ¬ X b) (hnx : ¬ X sb) :
    GL X E FS ((w'.setCell ⟨sb, 3, none⟩ pv').setCell ⟨sb, 4, none⟩ (.int .u32 (maskN p' : Int))) B sb av fv fit L pv' p' := by
  have hrow2 := (hrow.stored 3 pv').stored 4 (.int .u32 (maskN p' : Int))
  have hset : ∀ b, b ≠ sb → ((w'.setCell ⟨sb, 3, none⟩ pv').setCell ⟨sb, 4, none⟩ (.int .u32 (maskN p' : Int))).heap[b]? = w'.heap[b]? := fun b hb =>
    (Below.heap_setCell _ _ _ _ (fun e => hb (by simpa [eq_comm] using e))).trans (Below.heap_setCell _ _ _ _ (fun e => hb (by simpa [eq_comm] using e)))
  exact ⟨by simpa using hrow2, hown.keep fun k hk2 => hset k (hne k hk2).1, hne, hnx⟩
/-- What the search answers: found or not, the path at the end. -/
def LPost (X : Nat → Prop) (E FS : TypeId) (w : World) (B sb : Nat) (av fv fit : Value) (L : Nat) (pv : Value) (p : List Nat) (o : Option (List Nat)) (e : Ending) (w' : World) : Prop :=
  ∃ pv', e = .returned (.bool o.isSome) ∧ GL X E FS w' B sb av fv fit L pv' (o.getD p) ∧ Keeps (fun b => b = sb ∨ pv.ownBlock = some b) w w' ∧ (∀ b, pv'.ownBlock = some b → pv.ownBlock = some b ∨ w.heap.size ≤ b)
theorem dfs_path {H : List Nat} {far : Nat → Int} {L n d : Nat} {ft : List Nat → Nat → Bool} {p q : List Nat} (hH : ∀ m ∈ H, m < 2 ^ n) (hn : n ≤ 16) (hp : PathN H n p) (h : dfsF (candN H far L ft) (finN H) d p = some q) : PathN H n q ∧ q.length = p.length + d := by
  obtain ⟨t, rfl, he, -⟩ := dfs_some (cand_sorted H far L ft) h
  obtain ⟨h1, -, h3, -⟩ := ext_path hH hn hp he
  exact ⟨h1, by simp [h3]⟩
