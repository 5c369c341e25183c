/- The first way in which a vertex goes: the program's and the reference's search. -/
import Derived.Test.YtfccpencgengaaaPruneAtM
import Derived.Test.YtfccpencgengaaaPrune2
import Derived.Test.YtfccpencgengaaaPrune3
import Derived.Test.YtfccpencgengaaaPrune4
namespace Go.Proofs.Ytfccpencgengaaa
open Go.RowKit
/-- A box of three cells that may be stored to. -/
structure Box3 (w : World) (b : Nat) (x y z : Value) : Prop where
  c0 : w.cell? ⟨b, 0, none⟩ = some x
  c1 : w.cell? ⟨b, 1, none⟩ = some y
  c2 : w.cell? ⟨b, 2, none⟩ = some z
  g0 : w.frozen? ⟨b, 0, none⟩ = false
  g1 : w.frozen? ⟨b, 1, none⟩ = false
  g2 : w.frozen? ⟨b, 2, none⟩ = false
theorem Box3.lt {w : World} {b : Nat} {x y z : Value} (h : Box3 w b x y z) : b < w.heap.size := cell_lt h.c0
theorem Box3.below {w w' : World} {B b : Nat} {x y z : Value} (h : Box3 w b x y z) (hb : Below B w w') (hB : w.heap.size ≤ B) : Box3 w' b x y z :=
  have hl := Nat.lt_of_lt_of_le h.lt hB
  ⟨(hb.cell (p := ⟨b, 0, none⟩) hl).trans h.c0, (hb.cell (p := ⟨b, 1, none⟩) hl).trans h.c1, (hb.cell (p := ⟨b, 2, none⟩) hl).trans h.c2,
    (hb.frozen (p := ⟨b, 0, none⟩) hl).trans h.g0, (hb.frozen (p := ⟨b, 1, none⟩) hl).trans h.g1, (hb.frozen (p := ⟨b, 2, none⟩) hl).trans h.g2⟩
theorem Box3.set {w : World} {b : Nat} {x y z : Value} (h : Box3 w b x y z) (x' y' z' : Value) : Box3 (((w.setCell ⟨b, 0, none⟩ x').setCell ⟨b, 1, none⟩ y').setCell ⟨b, 2, none⟩ z') b x' y' z' := by
  obtain ⟨c0, c1, c2, g0, g1, g2⟩ := h
  refine ⟨by simp [go_sem, c0, c1, c2], by simp [go_sem, c0, c1, c2], by simp [go_sem, c0, c1, c2], by simp [go_sem, g0, g1, g2], by simp [go_sem, g0, g1, g2], by simp [go_sem, g0, g1, g2]⟩
theorem Box3.other {w : World} {b b' : Nat} {x y z : Value} (h : Box3 w b x y z) (x' y' z' : Value) (hne : b ≠ b') : Box3 (((w.setCell ⟨b', 0, none⟩ x').setCell ⟨b', 1, none⟩ y').setCell ⟨b', 2, none⟩ z') b x y z := by
  obtain ⟨c0, c1, c2, g0, g1, g2⟩ := h
  have hk : (((w.setCell ⟨b', 0, none⟩ x').setCell ⟨b', 1, none⟩ y').setCell ⟨b', 2, none⟩ z').heap[b]? = w.heap[b]? :=
    (Below.heap_setCell _ _ _ _ (by simpa using hne)).trans ((Below.heap_setCell _ _ _ _ (by simpa using hne)).trans (Below.heap_setCell _ _ _ _ (by simpa using hne)))
  refine ⟨(World.cell?_of_block hk).trans c0, (World.cell?_of_block hk).trans c1, (World.cell?_of_block hk).trans c2, ?_, ?_, ?_⟩ <;>
  · simp only [World.frozen?] at *
    rw [hk]; assumption
/-- What a search answers. -/
def PrP (a : List Nat) (s v : Nat) (w : World) (e : Ending) (w' : World) : Prop := ∃ o : Option Tri, IsP a s v o ∧ e = .returned (.tuple #[triV (o.getD ⟨0, 0, 0⟩), .bool o.isSome]) ∧ Below w.heap.size w w'
set_option maxRecDepth 100000 in
set_option maxHeartbeats 4000000 in
theorem pruneOf_any {S : Nat → Prop} {nv : Value} {a : List Nat} {s x n : Nat} {w : World} (hI : PrI a s n) (hn : SlI S w .u32 nv (natsI a)) (hx : x < n) (hsx : s.testBit x = true) :
    Calls Try.prog 48 #[nv, .int .u32 (s : Int), .int .i64 (x : Int)] w (PrP a s x w) := by
  have hl := hI.len
  have h16 := hI.le
  have hq0 : Below w.heap.size w (w.alloc (.cells #[.int .i64 0, .int .i64 0, .int .i64 0] 38)) := (Below.refl _ _).alloc (Nat.le_refl _) _
  have hcan := fun y k => canPrune_any (y := y) (k := k) hI (hn.below hq0 (Nat.le_refl _)) hx hsx
  have HS := Lib.hid (NoP.start (a := a) (s := s) (v := x))
  have HL := Lib.hid hl
  obtain ⟨na, nc, hne⟩ := hn.slice
  rw [natsI_len] at hne
  subst hne
  clear hn
  have HI := Lib.hid hI
  clear hl hI
  go_enter Try.func48, Try.ntmps48
  go_wp2
  go_loopw [8] (fun kd wr => ∃ k : Int, kd = .int .i64 k ∧ 1 ≤ k ∧ k ≤ 5 ∧ RowKit.Hid (NoP a s x k (-1)) ∧ wr = w.alloc (.cells #[.int .i64 0, .int .i64 0, .int .i64 0] 38)) (fun kd _ => (5 - intOf kd).toNat)
  case atStart => exact ⟨1, rfl, by omega, by omega, HS, rfl⟩
  case round =>
    obtain ⟨k, rfl, hk1, hk5, HN, rfl⟩ := hrel
    by_cases hk4 : k ≤ 4
    case neg =>
      have HO := Lib.hid (HN.out.out (by omega))
      go_wp2
      refine bodyPost_ret (v := .tuple #[.agg #[.int .i64 0, .int .i64 0, .int .i64 0], .bool false]) (by simp [results, Try.results48, go_sem]) rfl ⟨none, HO.out, rfl, ?_⟩
      exact (Below.refl _ _).alloc (Nat.le_refl _) _
    go_wp2
    go_loopw [9] (fun b wr => ∃ y : Int, b = .int .i64 y ∧ -1 ≤ y ∧ y ≤ a.length ∧ RowKit.Hid (NoP a s x k y) ∧ wr = w.alloc (.cells #[.int .i64 0, .int .i64 0, .int .i64 0] 38)) (fun b _ => ((a.length : Int) - intOf b).toNat)
    case atStart => exact ⟨-1, rfl, by omega, by omega, HN, rfl⟩
    case round =>
      obtain ⟨y, rfl, hy0, hyn, HM, rfl⟩ := hrel
      have hn16 : a.length ≤ 16 := by have := HL.out; omega
      by_cases hyl : y < a.length
      case neg =>
        have HK := Lib.hid (HM.out.kind (by omega))
        go_wp2
        go_roundw
        case rel => exact ⟨k + 1, by go_num, by omega, by omega, HK, by trivial⟩
        case measure => simp only [intOf]; omega
      have hc := hcan y k
      by_cases hg : goesB a s x y k = true
      case pos =>
        have HF := Lib.hid (HM.out.found hg)
        rw [hg] at hc
        clear hcan
        go_wp2_with (go_at_call 41; refine hc.mono ?_; rintro e w' ⟨rfl, rfl⟩)
        refine bodyPost_ret (v := .tuple #[.agg #[.int .i64 (x : Int), .int .i64 y, .int .i64 k], .bool true]) (by simp [results, Try.results48, go_sem]) rfl ⟨some ⟨x, y, k⟩, HF.out, rfl, ?_⟩
        exact (Below.refl _ _).alloc (Nat.le_refl _) _
      have hg' : goesB a s x y k = false := by simpa using hg
      have HF := Lib.hid (HM.out.next hg')
      rw [hg'] at hc
      clear hcan hg hg'
      go_wp2_with (go_at_call 41; refine hc.mono ?_; rintro e w' ⟨rfl, rfl⟩)
      go_roundw
      case rel => exact ⟨y + 1, by go_num, by omega, by omega, HF, by trivial⟩
      case measure => simp only [intOf]; omega
set_option maxRecDepth 100000 in
set_option maxHeartbeats 4000000 in
theorem l18At_any {S S' : Nat → Prop} {v u : Value} {g : List (List Int)} {s x : Nat} {w : World} (hg : GOk g) (hv : SlR S w v g) (hu : SlI S' w .i64 u (bitsI s)) (hs : s < 2 ^ g.length) (hsx : s.testBit x = true) :
    Calls Try.prog 44 #[.agg #[v], u, .int .i64 (x : Int)] w (PrP (netsL g) s x w) := by
  have h16 := hg.hi
  have hs32 : s < 4294967296 := Nat.lt_of_lt_of_le hs (by have := pow_le16 h16; omega)
  have hgoes := fun (W : World) (hb : Below w.heap.size w W) (y k : Int) => l18Goes_any (y := y) (k := k) hg (hv.below hb (Nat.le_refl _)) (hu.below hb (Nat.le_refl _)) hs hsx
  unfold triV at hgoes
  have hbl : (bitsI s).length ≤ 32 := bitsI_len s
  obtain ⟨va, vc, rfl⟩ := hv.slice
  obtain ⟨ua, ub, uo, uc, rfl, hul, hua, huc0⟩ := hu
  have HU := Lib.hid huc0
  clear huc0
  have hq0 : Below w.heap.size w (((w.alloc (.cells #[.slice va g.length vc] 29)).alloc (.cells #[.int .i64 0, .int .i64 0, .int .i64 0] 38)).alloc (.cells #[.int .i64 (x : Int), .int .i64 (-1), .int .i64 1] 38)) := (((Below.refl _ _).alloc (Nat.le_refl _) _).alloc (by simp) _).alloc (by simp; omega) _
  go_enter Try.func44, Try.ntmps44
  go_wp2_with fail
  refine (hgoes _ hq0 (-1) 1).mono ?_
  rintro e w1 ⟨rfl, hb1⟩
  have hq1 := hq0.trans (hb1.mono hq0.size)
  have cg1 : w1.cell? ⟨w.heap.size, 0, none⟩ = some (.slice va g.length vc) := (hb1.cell (p := ⟨w.heap.size, 0, none⟩) (by simp <;> omega)).trans (by simp [go_sem])
  have r1 : Box3 w1 (w.heap.size + 1) (.int .i64 0) (.int .i64 0) (.int .i64 0) := Box3.below ⟨by simp [go_sem], by simp [go_sem], by simp [go_sem], by simp [go_sem], by simp [go_sem], by simp [go_sem]⟩ hb1 (Nat.le_refl _)
  have x1 : Box3 w1 (w.heap.size + 1 + 1) (.int .i64 (x : Int)) (.int .i64 (-1)) (.int .i64 1) := Box3.below ⟨by simp [go_sem], by simp [go_sem], by simp [go_sem], by simp [go_sem], by simp [go_sem], by simp [go_sem]⟩ hb1 (Nat.le_refl _)
  by_cases h1 : goesB (netsL g) s x (-1) 1 = true
  case pos =>
    have HF := Lib.hid (NoP.start.found h1)
    rw [h1]
    obtain ⟨c0, c1, c2, g0, g1, g2⟩ := r1
    obtain ⟨d0, d1, d2, e0, e1, e2⟩ := x1
    clear hgoes
    go_wp2
    refine bodyPost_ret (v := .tuple #[.agg #[.int .i64 (x : Int), .int .i64 (-1), .int .i64 1], .bool true]) (by simp [results, Try.results44, go_sem, c0, c1, c2]) rfl ⟨some ⟨x, -1, 1⟩, HF.out, rfl, ?_⟩
    exact ((hq1.setCell (by simp) _).setCell (by simp) _).setCell (by simp) _
  have h1' : goesB (netsL g) s x (-1) 1 = false := by simpa using h1
  have HN := Lib.hid (NoL.start h1')
  rw [h1']
  clear h1 h1' hq0 hb1
  go_wp2
  go_loopw [9] (fun kd wr => ∃ (k : Int) (p0 p1 p2 : Int), kd = .int .i64 k ∧ 2 ≤ k ∧ k ≤ 5 ∧ RowKit.Hid (NoL (netsL g) s x k 0) ∧ Below w.heap.size w wr ∧ wr.cell? ⟨w.heap.size, 0, none⟩ = some (.slice va g.length vc) ∧ Box3 wr (w.heap.size + 1) (.int .i64 0) (.int .i64 0) (.int .i64 0) ∧ Box3 wr (w.heap.size + 1 + 1) (.int .i64 p0) (.int .i64 p1) (.int .i64 p2)) (fun kd _ => (5 - intOf kd).toNat)
  case atStart => exact ⟨2, x, -1, 1, rfl, by omega, by omega, HN, hq1, cg1, r1, x1⟩
  case round =>
    clear hq1 cg1 r1 x1
    obtain ⟨k, p0, p1, p2, rfl, hk2, hk5, HN, hq, cg, rb, xb⟩ := hrel
    by_cases hk4 : k ≤ 4
    case neg =>
      have HO := Lib.hid (HN.out.out (by omega))
      obtain ⟨c0, c1, c2, g0, g1, g2⟩ := rb
      clear hgoes xb
      go_wp2
      refine bodyPost_ret (v := .tuple #[.agg #[.int .i64 0, .int .i64 0, .int .i64 0], .bool false]) (by simp [results, Try.results44, go_sem, c0, c1, c2]) rfl ⟨none, HO.out, rfl, ?_⟩
      exact ((hq.setCell (by simp) _).setCell (by simp) _).setCell (by simp) _
    go_wp2
    go_loopw [10] (fun id wr => ∃ (i : Nat) (p0 p1 p2 : Int), id = .int .i64 i ∧ i ≤ (bitsI s).length ∧ RowKit.Hid (NoL (netsL g) s x k i) ∧ Below w.heap.size w wr ∧ wr.cell? ⟨w.heap.size, 0, none⟩ = some (.slice va g.length vc) ∧ Box3 wr (w.heap.size + 1) (.int .i64 0) (.int .i64 0) (.int .i64 0) ∧ Box3 wr (w.heap.size + 1 + 1) (.int .i64 p0) (.int .i64 p1) (.int .i64 p2)) (fun id _ => (bitsI s).length - (intOf id).toNat)
    case atStart => exact ⟨0, p0, p1, p2, rfl, Nat.zero_le _, HN, hq, cg, rb, xb⟩
    case round =>
      clear hq cg rb xb p0 p1 p2
      obtain ⟨i, p0, p1, p2, rfl, hi, HM, hq, cg, rb, xb⟩ := hrel
      by_cases hil : i < (bitsI s).length
      case neg =>
        have HK := Lib.hid (HM.out.kind hs32 hk2 (by omega))
        go_wp2
        go_roundw
        case rel => exact ⟨k + 1, p0, p1, p2, by go_num, by omega, by omega, HK, hq, cg, rb, xb⟩
        case measure => simp only [intOf]; omega
      have hcell := HU.out i hil
      obtain ⟨rfl, -⟩ := hua (by omega)
      have hcw := (hq.cell (p := ⟨ub, uo + i, none⟩) (cell_lt hcell)).trans hcell
      have hfound := HM.out.found hs32 hk2 hil
      have hnext := HM.out.next hil
      generalize (bitsI s)[i] = y at hcw hfound hnext
      clear hcell
      obtain ⟨d0, d1, d2, e0, e1, e2⟩ := xb
      have hqs := ((hq.setCell (p := ⟨w.heap.size + 1 + 1, 0, none⟩) (by simp; omega) (.int .i64 (x : Int))).setCell (p := ⟨w.heap.size + 1 + 1, 1, none⟩) (by simp; omega) (.int .i64 y)).setCell (p := ⟨w.heap.size + 1 + 1, 2, none⟩) (by simp; omega) (.int .i64 k)
      have hgs := hgoes _ hqs y k
      have rs := rb.other (b' := w.heap.size + 1 + 1) (.int .i64 (x : Int)) (.int .i64 y) (.int .i64 k) (by omega)
      have xs := (Box3.mk d0 d1 d2 e0 e1 e2).set (.int .i64 (x : Int)) (.int .i64 y) (.int .i64 k)
      have cgs : ((((wr.setCell ⟨w.heap.size + 1 + 1, 0, none⟩ (.int .i64 (x : Int))).setCell ⟨w.heap.size + 1 + 1, 1, none⟩ (.int .i64 y)).setCell ⟨w.heap.size + 1 + 1, 2, none⟩ (.int .i64 k))).cell? ⟨w.heap.size, 0, none⟩ = some (.slice va g.length vc) :=
        (World.cell?_of_block (a := ⟨w.heap.size, 0, none⟩) ((Below.heap_setCell _ _ _ _ (by simp; omega)).trans ((Below.heap_setCell _ _ _ _ (by simp; omega)).trans (Below.heap_setCell _ _ _ _ (by simp; omega))))).trans cg
      by_cases hG : goesB (netsL g) s x y k = true
      case pos =>
        have HF := Lib.hid (hfound hG)
        rw [hG] at hgs
        clear hgoes hfound hnext hG
        go_wp2_with fail
        refine hgs.mono ?_
        rintro e w2 ⟨rfl, hb2⟩
        have hq2 := hqs.trans (hb2.mono hqs.size)
        obtain ⟨c0, c1, c2, g0, g1, g2⟩ := rs.below hb2 (Nat.le_refl _)
        obtain ⟨d0, d1, d2, e0, e1, e2⟩ := xs.below hb2 (Nat.le_refl _)
        clear hgs rs xs rb cgs
        go_wp2
        refine bodyPost_ret (v := .tuple #[.agg #[.int .i64 (x : Int), .int .i64 y, .int .i64 k], .bool true]) (by simp [results, Try.results44, go_sem, c0, c1, c2]) rfl ⟨some ⟨x, y, k⟩, HF.out, rfl, ?_⟩
        exact ((hq2.setCell (by simp) _).setCell (by simp) _).setCell (by simp) _
      have hG' : goesB (netsL g) s x y k = false := by simpa using hG
      have HF := Lib.hid (hnext hG')
      rw [hG'] at hgs
      clear hgoes hfound hnext hG hG'
      go_wp2_with fail
      refine hgs.mono ?_
      rintro e w2 ⟨rfl, hb2⟩
      have hq2 := hqs.trans (hb2.mono hqs.size)
      have rs2 := rs.below hb2 (Nat.le_refl _)
      have xs2 := xs.below hb2 (Nat.le_refl _)
      have cg2 := (hb2.cell (cell_lt cgs)).trans cgs
      clear hgs rs xs rb cgs
      go_wp2
      go_roundw
      case rel => exact ⟨i + 1, x, y, k, by go_num, by omega, HF, hq2, cg2, rs2, xs2⟩
      case measure => simp [intOf]; omega
end Go.Proofs.Ytfccpencgengaaa
