/- A list of foldings is right: plain facts, and two foldings compared. -/
import Derived.Test.YtfccpencgengaaaDoorFold2c
import Derived.Laws.StructEq
namespace Go.Proofs.YtfccpencgengaaaDoor
open Go.RowKit
/-- May p be the next folding? -/
def foldOkB (n : Nat) (a : List Nat) (s : Nat) (p : Tri) : Bool := inB p.a 0 ((n : Int) - 1) && s.testBit p.a.toNat && decide (foldF a s p.a.toNat = some p)
def foldsB (n : Nat) : List Nat → Nat → List Tri → Bool
  | _, _, [] => true
  | a, s, p :: t => foldOkB n a s p && foldsB n (foldN a p) (andN s (bit p.a.toNat)) t
theorem foldsB_miss {n : Nat} {a : List Nat} {s : Nat} {t : List Tri} {k : Nat} (hk : k < t.length) (h : foldOkB n a s (t[k]) = false) : foldsB n a s (t.drop k) = false := by
  rw [List.drop_eq_getElem_cons hk, foldsB, h, Bool.false_and]
theorem foldsB_step {n : Nat} {a : List Nat} {s : Nat} {t : List Tri} {k : Nat} (hk : k < t.length) (h : foldOkB n a s (t[k]) = true) : foldsB n a s (t.drop k) = foldsB n (foldN a (t[k])) (andN s (bit (t[k]).a.toNat)) (t.drop (k + 1)) := by
  rw [List.drop_eq_getElem_cons hk, foldsB, h, Bool.true_and]
theorem foldsB_end {n : Nat} {a : List Nat} {s : Nat} {t : List Tri} : foldsB n a s (t.drop t.length) = true := by simp [foldsB]
noncomputable def foldsOkB (g : List (List Int)) (t : List Tri) : Bool := gokB g && decide (t.length ≤ 16) && foldsB g.length (netsL g) (firstN g.length) t
theorem foldsS : Tryd.prog.underlying 86 = some (.struct (Tryd.prog.fieldsOf 86)) := by kernel_rfl
theorem foldsP : Tryd.prog.stoodInHeld 86 = false := by kernel_rfl
theorem foldsG : Tryd.prog.eqGuardType Tryd.prog.depth 86 = false := by kernel_rfl
theorem eqGuard_fold (x y : Operand) (p q : Tri) (w : World) : (eqGuard .neq 86 x y (.agg #[.int .i64 p.a, .int .i64 p.b, .int .i64 p.c]) (.agg #[.int .i64 q.a, .int .i64 q.b, .int .i64 q.c])).run Tryd.prog w = .ok () w :=
  run_eqGuard_agg w .neq _ x y _ _ foldsG
theorem neq_fold (p q : Tri) (w : World) : (binOp .neq 86 (.agg #[.int .i64 p.a, .int .i64 p.b, .int .i64 p.c]) (.agg #[.int .i64 q.a, .int .i64 q.b, .int .i64 q.c])).run Tryd.prog w = .ok (.bool (!decide (p = q))) w := by
  have u := Tryd.underlying2
  have uf := Tryd.underlying86
  have a1 := Tryd.isAgg2
  have z1 := Tryd.sizeOf2
  obtain ⟨pa, pb, pc⟩ := p
  obtain ⟨qa, qb, qc⟩ := q
  rw [run_neq_struct, show (10000 : Nat) = 9999 + 1 from rfl, run_equalIn_agg w 9999 86 _ _ foldsS foldsP]
  simp only [Program.fieldsOf, uf]
  go_simp
  by_cases h1 : pa = qa <;> by_cases h2 : pb = qb <;> by_cases h3 : pc = qc <;> simp [h1, h2, h3]
end Go.Proofs.YtfccpencgengaaaDoor
