/- Folding by the program: foldAway, foldedOf, isSeries, SeriesIn. -/
import Derived.Test.YtfccpencgengaaaDoorFold
import Derived.Test.YtfccpencgengaaaDoorSets
import Derived.Test.YtfccpencgengaaaDoorLaws
namespace Go.Proofs.YtfccpencgengaaaDoor
open Go.RowKit
theorem foldV_none {a : List Nat} {left : Nat} : foldV a left = none ↔ ∀ v ∈ bitsN left, foldF a left v = none := by
  unfold foldV
  rw [List.find?_eq_none]
  constructor
  · intro h v hv; have := h v hv; simpa using this
  · intro h v hv; rw [h v hv]; simp
theorem foldV_some {a : List Nat} {left k : Nat} {f : Tri} (hk : k < (bitsN left).length) (h : ∀ j (hj : j < (bitsN left).length), j < k → foldF a left (bitsN left)[j] = none) (hf : foldF a left (bitsN left)[k] = some f) : foldV a left = some (bitsN left)[k] := by
  unfold foldV
  rw [List.find?_eq_some_iff_getElem]
  refine ⟨by rw [hf]; rfl, k, hk, rfl, fun j hj => ?_⟩
  rw [h j (by omega) hj]; rfl
theorem foldsF_stop {n : Nat} {a : List Nat} {left : Nat} (h : foldV a left = none) : foldsF (n + 1) a left = (a, left) := by rw [foldsF, h]
theorem foldsF_step {n v : Nat} {a : List Nat} {left : Nat} {f : Tri} (h : foldV a left = some v) (hf : foldF a left v = some f) : foldsF (n + 1) a left = foldsF n (foldN a f) (andN left (bit v)) := by rw [foldsF, h]; simp only [hf]
theorem pop_less {left v : Nat} (hl : left < 4294967296) (hv : left.testBit v = true) : popN (andN left (bit v)) < popN left := by
  have hv32 := bit_lt_of (n := 32) hl hv
  exact popN_lt hl (fun i hi => by rw [testBit_andN hl (bit_lt hv32), Bool.and_eq_true] at hi; exact hi.1) hv (by rw [testBit_andN hl (bit_lt hv32), testBit_bit]; simp)
theorem foldN_len (a : List Nat) (f : Tri) : (foldN a f).length = a.length := by unfold foldN; split; exact joinN_len _ _ _; rfl
noncomputable def seriesB (g : List (List Int)) : Bool := gokB g && decide ((foldsF 33 (netsL g) (firstN g.length)).2 = 0)
theorem FoldI.start {g : List (List Int)} (hg : GOk g) : FoldI (netsL g) (firstN g.length) g.length := by
  refine ⟨netsL_len g, hg.hi, by unfold firstN; have := Nat.two_pow_pos g.length; omega, netsL_lt hg, fun u => ?_⟩
  by_cases hu : u < g.length
  · rw [nets_bit2 hg hu]
    have := hg.irrefl u hu
    simpa [hu] using this
  · have : (netsL g).getD u 0 = 0 := by simp [netsL, List.getElem?_eq_none (show g.length ≤ u by omega)]
    rw [this, Nat.zero_testBit]
set_option maxHeartbeats 1000000 in
theorem foldAway_any {B left v n : Nat} {nv : Value} {a : List Nat} {f : Tri} {w : World} (hI : FoldI a left n) (hf : foldF a left v = some f) (hn : Own w B 71 1 nv a.length ((natsI a).map (.int .u32))) :
    Calls Tryd.prog 75 #[nv, triV f] w fun e w' => e = .returned (.tuple #[]) ∧ Own w' B 71 1 nv a.length ((natsI (foldN a f)).map (.int .u32)) ∧ KeptBut w w' nv.ownBlock := by
  have h16 := hI.le
  have hlen := hI.len
  have hnm := (fold_names hI hf).2.2
  obtain ⟨fa, fb, fc⟩ := f
  simp only [triV] at *
  have hk0 : KeptBut w (w.alloc (.cells #[.int .i64 fa, .int .i64 fb, .int .i64 fc] 86)) nv.ownBlock := ⟨rfl, rfl, rfl, by simp, fun k hk _ => Below.heap_alloc w _ k hk⟩
  have hn1 := hn.alloc (.cells #[.int .i64 fa, .int .i64 fb, .int .i64 fc] 86)
  rcases hnm with hc | ⟨x, y, hb, hc, hx, hy, -, -, -⟩
  · subst hc
    have hd : decide ((0 : Int) ≤ -1) = false := by decide
    have hfn : foldN a ⟨fa, fb, -1⟩ = a := by simp [foldN]
    rw [hfn]
    clear hfn
    go_enter Tryd.func75, Tryd.ntmps75
    go_wp2
    go_end0
    exact ⟨rfl, hn1, hk0⟩
  · subst hb; subst hc
    have hd : decide ((0 : Int) ≤ (y : Int)) = true := by simp
    have hfn : foldN a ⟨fa, (x : Int), (y : Int)⟩ = joinN a x y := by simp [foldN]
    rw [hfn]
    have hxn := bit_lt_of hI.left hx
    have hyn := bit_lt_of hI.left hy
    have hj := join_any hn1 hI.lt (u := x) (x := y) (by omega) (by omega) (by omega)
    clear hfn hx hy
    go_enter Tryd.func75, Tryd.ntmps75
    go_wp2_with fail
    refine hj.mono ?_
    rintro e w' ⟨rfl, h1, h2⟩
    clear hj
    go_wp2
    go_end0
    exact ⟨rfl, h1, hk0.trans h2⟩
end Go.Proofs.YtfccpencgengaaaDoor
