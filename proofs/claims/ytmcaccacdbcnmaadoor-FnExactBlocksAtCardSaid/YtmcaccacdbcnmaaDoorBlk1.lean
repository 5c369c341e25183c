/- The reference's l19Block: the block of an edge. -/
import Derived.Test.YtmcaccacdbcnmaaDoorDuo
import Derived.Test.YtmcaccacdbcnmaaDoorBlkN
import Derived.Test.YtmcaccacdbcnmaaDoorPutL
import Derived.Test.YtmcaccacdbcnmaaDoorTwo
import Derived.Test.YtmcaccacdbcnmaaDoorNet
namespace Go.Proofs.YtmcaccacdbcnmaaDoor
open Go.RowKit
/-- The edges found, the first k of them through. -/
structure QBI (a : List Nat) (U B u x : Nat) (es : List NP) (k M : Nat) : Prop where
  e : BEI a B es
  uv : ((u, x) : NP) ∈ es
  cl : ∀ j, j < k → ∀ p, es[j]? = some p → (ClE a U es p.1 p.2 ∧ M.testBit p.1 = true) ∧ (ClE a U es p.2 p.1 ∧ M.testBit p.2 = true)
  sub : ∀ i, M.testBit i = true → B.testBit i = true
def sdP (p : NP) (s : Nat) : NP := if s = 0 then p else (p.2, p.1)
def SdI (a : List Nat) (U : Nat) (es : List NP) (p : NP) (s M : Nat) : Prop := ∀ t, t < s → ClE a U es (sdP p t).1 (sdP p t).2 ∧ M.testBit (sdP p t).1 = true
theorem QBI.snoc {a : List Nat} {U B u x k M : Nat} {es : List NP} {q : NP} (h : QBI a U B u x es k M) (hk : k ≤ es.length) (he : BEI a B (es ++ [q])) : QBI a U B u x (es ++ [q]) k M :=
  ⟨he, List.mem_append_left _ h.uv, fun j hj p hp => by
    rw [List.getElem?_append_left (by omega)] at hp
    have := h.cl j hj p hp
    exact ⟨⟨this.1.1.snoc q, this.1.2⟩, this.2.1.snoc q, this.2.2⟩, h.sub⟩
theorem SdI.snoc {a : List Nat} {U s M : Nat} {es : List NP} {p q : NP} (h : SdI a U es p s M) : SdI a U (es ++ [q]) p s M := fun t ht => ⟨(h t ht).1.snoc q, (h t ht).2⟩
theorem QBI.more {a : List Nat} {U B u x k M v : Nat} {es : List NP} (h : QBI a U B u x es k M) (hv : B.testBit v = true) : QBI a U B u x es k (M ||| bit v) :=
  ⟨h.e, h.uv, fun j hj p hp => by
    have := h.cl j hj p hp
    exact ⟨⟨this.1.1, or_bit.2 (.inl this.1.2)⟩, this.2.1, or_bit.2 (.inl this.2.2)⟩, fun i hi => by
    rcases or_bit.1 hi with hi | rfl
    · exact h.sub i hi
    · exact hv⟩
theorem SdI.more {a : List Nat} {U s M v : Nat} {es : List NP} {p : NP} (h : SdI a U es p s M) : SdI a U es p s (M ||| bit v) := fun t ht => ⟨(h t ht).1, or_bit.2 (.inl (h t ht).2)⟩
theorem SdI.next {a : List Nat} {U s M : Nat} {es : List NP} {p : NP} (h : SdI a U es p s M) (h1 : ClE a U es (sdP p s).1 (sdP p s).2) (h2 : M.testBit (sdP p s).1 = true) : SdI a U es p (s + 1) M := fun t ht => by
  by_cases e : t = s
  · subst e; exact ⟨h1, h2⟩
  · exact h t (by omega)
theorem QBI.next {a : List Nat} {U B u x k M : Nat} {es : List NP} {p : NP} (h : QBI a U B u x es k M) (hp : es[k]? = some p) (hs : SdI a U es p 2 M) : QBI a U B u x es (k + 1) M :=
  ⟨h.e, h.uv, fun j hj q hq => by
    by_cases e : j = k
    · subst e
      rw [hp] at hq
      cases hq
      exact ⟨hs 0 (by omega), hs 1 (by omega)⟩
    · exact h.cl j (by omega) q hq, h.sub⟩
theorem QBI.done {a : List Nat} {U B u x k M : Nat} {es : List NP} (h : QBI a U B u x es k M) (hU : U < 4294967296) (hsy : SymA a) (hir : IrrA a) (hB : BlkP a U B) (hk : es.length ≤ k) : M = B := by
  have key : ∀ p ∈ es, (ClE a U es p.1 p.2 ∧ M.testBit p.1 = true) ∧ (ClE a U es p.2 p.1 ∧ M.testBit p.2 = true) := fun p hp => by
    obtain ⟨j, hj, rfl⟩ := List.getElem_of_mem hp
    exact h.cl j (by omega) _ (List.getElem?_eq_getElem hj)
  exact blk_done hU hsy hir hB h.e h.uv (fun p hp => ⟨(key p hp).1.1, (key p hp).2.1⟩) h.sub (fun p hp => ⟨(key p hp).1.2, (key p hp).2.2⟩)
theorem rowsP_one (y z : Nat) : rowsP [((y, z) : NP)] = [[(y : Int), (z : Int)]] := rfl
theorem rowsP_two (y z : Nat) : rowsP [((y, z) : NP), ((z, y) : NP)] = [[(y : Int), (z : Int)], [(z : Int), (y : Int)]] := rfl
/-- The i first neighbours are asked. -/
def InI (es : List NP) (v R : Nat) (l : List Nat) (i : Nat) : Prop := ∀ j, j < i → ∀ w, l[j]? = some w → R.testBit w = true → ((v, w) : NP) ∈ dblP es
theorem InI.snoc {es : List NP} {v R i : Nat} {l : List Nat} {q : NP} (h : InI es v R l i) : InI (es ++ [q]) v R l i := fun j hj w hw hr => by
  rw [dblP_snoc]; exact List.mem_append_left _ (h j hj w hw hr)
theorem InI.next {es : List NP} {v R i w : Nat} {l : List Nat} (h : InI es v R l i) (hw : l[i]? = some w) (h2 : R.testBit w = true → ((v, w) : NP) ∈ dblP es) : InI es v R l (i + 1) := fun j hj x hx hr => by
  by_cases e : j = i
  · subst e
    rw [hw] at hx
    cases hx
    exact h2 hr
  · exact h j (by omega) x hx hr
theorem InI.done {a : List Nat} {U v o i : Nat} {es : List NP} {l : List Nat} (h : InI es v (reachN a (wo U v) o) l i) (hl : ∀ w, (a.getD v 0).testBit w = true → w ∈ l) (hi : l.length ≤ i) : ClE a U es v o := fun w h1 h2 => by
  obtain ⟨j, hj, e⟩ := List.getElem_of_mem (hl w h1)
  exact h j (by omega) w (by rw [List.getElem?_eq_getElem hj, e]) h2
set_option maxRecDepth 100000 in
set_option maxHeartbeats 16000000 in
theorem l19Block_any {S : Nat → Prop} {v : Value} {g : List (List Int)} {B u x : Nat} {w : World} (hg : GOk g) (hv : SlR S w v g) (hB : BlkP (netsL g) (firstN g.length) B) (hu : B.testBit u = true) (hx : B.testBit x = true) (he : ((netsL g).getD u 0).testBit x = true) :
    Calls Tryd.prog 71 #[.agg #[v], .int .i64 (u : Int), .int .i64 (x : Int)] w fun e w' => ∃ r, e = .returned r ∧ SlI (fun b => w.heap.size ≤ b ∧ b < w'.heap.size) w' .i64 r (bitsI B) ∧ Below w.heap.size w w' := by
  have hsy : SymA (netsL g) := fun _ _ h => (net_sym hg h).2.2.2
  have hir : IrrA (netsL g) := net_irr hg
  have h16 := hg.hi
  have hU16 : firstN g.length < 65536 := firstN_lt h16
  have hU : firstN g.length < 4294967296 := by omega
  have hB16 : B < 65536 := blk_lt (n := 16) hU16 hB
  have hBn : ∀ i, B.testBit i = true → i < g.length := fun i hi => by have := hB.sub i hi; rw [testBit_firstN, decide_eq_true_eq] at this; exact this
  have hv0 := hv
  obtain ⟨ga, gb, goff, vc, gf, rfl, hgl, hga, hgc⟩ := hv
  obtain ⟨rfl, -⟩ := hga (by have := hg.lo; omega)
  have hv := hv0
  have hRow : ∀ k, k < g.length → ∀ W : World, Below w.heap.size w W → ∃ ra rc, W.cell? ⟨gb, goff + k, none⟩ = some (.slice ra (bitsN ((netsL g).getD k 0)).length rc) ∧ ∃ rb ro, (0 < (bitsN ((netsL g).getD k 0)).length → ra = some ⟨rb, ro, none⟩) ∧ ∀ i (h : i < (bitsN ((netsL g).getD k 0)).length), W.cell? ⟨rb, ro + i, none⟩ = some (.int .i64 (((bitsN ((netsL g).getD k 0))[i] : Nat) : Int)) := fun k hk W hb => by
    obtain ⟨hgr0, hrow0⟩ := hgc k hk
    have hrow0 := hrow0.below hb (Nat.le_refl _)
    have hgr0 := (hb.cell (cell_lt hgr0)).trans hgr0
    have hgk : g[k] = natsI (bitsN ((netsL g).getD k 0)) := by rw [row_bits hg hk, bits_nats]
    rw [hgk] at hrow0
    obtain ⟨rb, ro, rc0, hre0, hrc⟩ := hrow0.at_
    obtain ⟨ra, rc, hre⟩ := hrow0.slice
    rw [hre] at hgr0 hre0
    rw [natsI_len] at hgr0 hre0
    refine ⟨ra, rc, hgr0, rb, ro, fun h0 => ?_, fun i hi => ?_⟩
    · have := hre0 h0
      simp only [Value.slice.injEq] at this
      exact this.1
    · rw [hrc i (by rw [natsI_len]; exact hi), natsI_get]
  clear hgc hgl hga
  have HROW := Lib.hid hRow
  have HNS := Lib.hid (fun (y z : Nat) (h : ((netsL g).getD y 0).testBit z = true) => net_sym hg h)
  have HN32 := Lib.hid (net_lt32 hg)
  have HWO := Lib.hid (fun (k : Nat) (hk : k < g.length) (W : World) (hb : Below w.heap.size w W) => l19Without_any (x := k) (hv.below hb (Nat.le_refl _)) h16 (by omega))
  have HRE := Lib.hid (fun (k o : Nat) (hk : k < g.length) (ho : o < g.length) (W : World) (hb : Below w.heap.size w W) (S' : Nat → Prop) (y : Value) (hy : SlI S' W .i64 y (bitsI (wo (firstN g.length) k))) => by
    have h := l16Reach_any (t := false) (f := o) (s := wo (firstN g.length) k) hg (hv.below hb (Nat.le_refl _)) hy (Nat.lt_of_le_of_lt (andN_le _ _) (firstN_two _)) ho
    rw [adj_false] at h
    exact h)
  have HSTEP := Lib.hid (fun (es : List NP) (k M : Nat) (h : QBI (netsL g) (firstN g.length) B u x es k M) (hk : k ≤ es.length) (y o z : Nat) (hy : B.testBit y = true) (ho : B.testBit o = true) (hne : o ≠ y) (hz : ((netsL g).getD y 0).testBit z = true) (hr : (reachN (netsL g) (wo (firstN g.length) y) o).testBit z = true) (hno : ((y, z) : NP) ∉ dblP es) => h.snoc hk (h.e.snoc hir hy (blk_in hU hsy hB hy ho hne hz hr) hz hno))
  have HDONE := Lib.hid (fun (es : List NP) (k M : Nat) (h : QBI (netsL g) (firstN g.length) B u x es k M) (hk : es.length ≤ k) => h.done hU hsy hir hB hk)
  have HIR := Lib.hid hir
  have HSY := Lib.hid hsy
  have H0 : RowKit.Hid (QBI (netsL g) (firstN g.length) B u x [((u, x) : NP)] 0 0) := Lib.hid ⟨BEI.one hir hu hx he, by simp, fun j hj => by omega, fun i hi => by rw [Nat.zero_testBit] at hi; cases hi⟩
  have HBN := Lib.hid hBn
  have HB16 := Lib.hid hB16
  have hbE : Below w.heap.size w ((w.alloc (.cells #[.slice (some ⟨gb, goff, none⟩) g.length vc] 28)).alloc (.cells #[] 2)) := ((Below.refl _ _).alloc (Nat.le_refl _) _).alloc (by simp) _
  obtain ⟨wA, hwA⟩ : ∃ x, x = (w.alloc (.cells #[.slice (some ⟨gb, goff, none⟩) g.length vc] 28)).alloc (.cells #[] 2) := ⟨_, rfl⟩
  have hsA : wA.heap.size = w.heap.size + 2 := by rw [hwA]; simp
  have hD0 := Duo.start (w := wA) (B := w.heap.size + 2) (n := w.heap.size + 2) (E1 := 2) (EO := 26) (u : Int) (x : Int) hsA.symm (by omega)
  have c0 : wA.cell? ⟨w.heap.size, 0, none⟩ = some (.slice (some ⟨gb, goff, none⟩) g.length vc) := by rw [hwA]; simp [go_sem]
  have hbF : Below wA.heap.size wA (((((wA.alloc (.cells #[.int .i64 (u : Int), .int .i64 (x : Int)] 2)).alloc (.cells #[.slice (some ⟨w.heap.size + 2, 0, none⟩) 2 2] 26)).alloc (.cells #[.int .i64 (u : Int), .int .i64 (x : Int)] 2)).alloc (.cells #[.int .i64 (x : Int), .int .i64 (u : Int)] 2)).alloc (.cells #[.slice (some ⟨w.heap.size + 2 + 2, 0, none⟩) 2 2, .slice (some ⟨w.heap.size + 2 + 3, 0, none⟩) 2 2] 26)) := (((((Below.refl _ _).alloc (Nat.le_refl _) _).alloc (by simp) _).alloc (by simp; omega) _).alloc (by simp; omega) _).alloc (by simp; omega) _
  have c1 := (hbF.cell (cell_lt c0)).trans c0
  rw [← hwA] at hbE
  have hb0 := hbE.trans (hbF.mono (by omega))
  rw [hwA] at hD0 c1 hb0
  have hout : ∀ (W : World) (u v : Value), SlI (OffD W (w.heap.size + 1) u v) W .i64 (.slice (some ⟨w.heap.size + 1, 0, none⟩) 0 0) (bitsI 0) := fun W u v => by
    rw [(bitsI_nil (by omega)).2 rfl]
    exact SlI.empty' _ _ _ _
  have HOUT := Lib.hid hout
  have hl0 : (bitsI 0).length = 0 := by rw [(bitsI_nil (by omega)).2 rfl]; rfl
  simp only [show w.heap.size + 2 + 1 = w.heap.size + 1 + 1 + 1 from rfl, show w.heap.size + 2 + 2 = w.heap.size + 1 + 1 + 1 + 1 from rfl, show w.heap.size + 2 + 3 = w.heap.size + 1 + 1 + 1 + 1 + 1 from rfl, show w.heap.size + 2 + 4 = w.heap.size + 1 + 1 + 1 + 1 + 1 + 1 from rfl] at hD0 c1 hb0
  simp only [show w.heap.size + 2 = w.heap.size + 1 + 1 from rfl] at hD0 c1 hb0
  have h16' := h16
  clear hRow hU hU16 hB16 hBn hsy hir hB hu hx he hbE hsA c0 hbF hwA hout
  go_enter Tryd.func71, Tryd.ntmps71
  go_wp2
  go_loopw [7, 8, 9, 10] (fun ov ev sv kv wr => ∃ (es : List NP) (M k : Nat), k ≤ es.length ∧ es.length ≤ 128 ∧ kv = .int .i64 (k : Int) ∧ RowKit.Hid (QBI (netsL g) (firstN g.length) B u x es k M) ∧ M < 65536 ∧ Duo wr (w.heap.size + 1 + 1) 26 ev sv (rowsP es) (rowsP (dblP es)) ∧ SlI (OffD wr (w.heap.size + 1) ev sv) wr .i64 ov (bitsI M) ∧ Below w.heap.size w wr ∧ wr.cell? ⟨w.heap.size, 0, none⟩ = some (.slice (some ⟨gb, goff, none⟩) g.length vc)) (fun _ _ _ kv _ => 200 - (RowKit.intOf kv).toNat)
  case atStart => exact ⟨[((u, x) : NP)], 0, 0, Nat.zero_le _, by simp, rfl, H0, by omega, hD0, HOUT.out _ _ _, hb0, c1⟩
  case round =>
    clear hD0 HOUT hb0 c1 H0
    obtain ⟨es, M, k, hk, hes, rfl, HQ, hM, hD, hov, hq, c1⟩ := hrel
    obtain ⟨⟨ea, ec, rfl⟩, sa, sc, rfl⟩ := hD.isSlice
    obtain ⟨oa, oc, rfl⟩ := hov.slice
    simp only [rowsP_len] at *
    by_cases hlt : k < es.length
    case neg =>
      have HMB := Lib.hid (HDONE.out es k M HQ.out (by omega))
      go_wp2
      go_ret
      exact ⟨_, rfl, by rw [← HMB.out]; exact hov.weak fun b hb => ⟨by have := hb.1; omega, hb.2.1⟩, hq⟩
    obtain ⟨p, hp⟩ : ∃ p, p = es[k] := ⟨_, rfl⟩
    have hgp : es[k]? = some p := by rw [hp, List.getElem?_eq_getElem hlt]
    have HP := Lib.hid (HQ.out.e.inB p (by rw [hp]; exact List.getElem_mem hlt))
    have HS0 : RowKit.Hid (SdI (netsL g) (firstN g.length) es p 0 M) := Lib.hid (fun t ht => by omega)
    clear hp
    go_wp2
    go_loopw [7, 8, 9, 11] (fun ov ev sv sd wr => ∃ (es : List NP) (M s : Nat), s ≤ 2 ∧ sd = .int .i64 (s : Int) ∧ k < es.length ∧ es.length ≤ 128 ∧ es[k]? = some p ∧ RowKit.Hid (QBI (netsL g) (firstN g.length) B u x es k M) ∧ RowKit.Hid (SdI (netsL g) (firstN g.length) es p s M) ∧ M < 65536 ∧ Duo wr (w.heap.size + 1 + 1) 26 ev sv (rowsP es) (rowsP (dblP es)) ∧ SlI (OffD wr (w.heap.size + 1) ev sv) wr .i64 ov (bitsI M) ∧ Below w.heap.size w wr ∧ wr.cell? ⟨w.heap.size, 0, none⟩ = some (.slice (some ⟨gb, goff, none⟩) g.length vc)) (fun _ _ _ sd _ => 2 - (RowKit.intOf sd).toNat)
    case atStart => exact ⟨es, M, 0, by omega, rfl, hlt, hes, hgp, HQ, HS0, hM, by simpa only [rowsP_len] using hD, hov, hq, c1⟩
    case round =>
      clear hk hes HQ hM hD hov hq c1 hlt hgp HS0
      obtain ⟨es, M, s, hs, rfl, hlt, hes, hgp, HQ, HS, hM, hD, hov, hq, c1⟩ := hrel
      obtain ⟨⟨ea, ec, rfl⟩, sa, sc, rfl⟩ := hD.isSlice
      obtain ⟨oa, oc, rfl⟩ := hov.slice
      simp only [rowsP_len] at *
      by_cases hs2 : s < 2
      case neg =>
        have hse : s = 2 := by omega
        subst hse
        have HQ2 := Lib.hid (HQ.out.next hgp HS.out)
        go_wp2
        go_roundw
        case rel => exact ⟨es, M, k + 1, by omega, hes, by go_num, HQ2, hM, by simpa only [rowsP_len] using hD, hov, hq, c1⟩
        case measure => simp [RowKit.intOf]; omega
      obtain ⟨s', hs'⟩ : ∃ s', s' = 1 - s := ⟨_, rfl⟩
      have hwr : IntKind.i64.wrap (1 - (s : Int)) = (s' : Int) := by rw [IntWalk.i64_in _ (by omega)]; omega
      have hs1 : s' < 2 := by omega
      obtain ⟨rb0, ro0, rcap, rb, ro, rc, hve, d0, d1, d2⟩ := (hD.rowsL (by rw [rowsP_len]; omega)).pair hlt
      simp only [Value.slice.injEq, true_and] at hve
      obtain ⟨rfl, rfl⟩ := hve
      have hgp2 : es[k] = p := by have := hgp; rw [List.getElem?_eq_getElem hlt] at this; exact Option.some.inj this
      rw [hgp2] at d1 d2
      obtain ⟨y, hy⟩ : ∃ y, y = (sdP p s).1 := ⟨_, rfl⟩
      obtain ⟨o, ho⟩ : ∃ o, o = (sdP p s).2 := ⟨_, rfl⟩
      have dy : wr.cell? ⟨rb, ro + s, none⟩ = some (.int .i64 (y : Int)) := by
        rw [hy]
        by_cases e : s = 0
        · subst e; simpa [sdP] using d1
        · have e1 : s = 1 := by omega
          subst e1; simpa [sdP] using d2
      have dO : wr.cell? ⟨rb, ro + s', none⟩ = some (.int .i64 (o : Int)) := by
        rw [ho, hs']
        by_cases e : s = 0
        · subst e; simpa [sdP] using d2
        · have e1 : s = 1 := by omega
          subst e1; simpa [sdP] using d1
      have hPE : B.testBit y = true ∧ B.testBit o = true ∧ o ≠ y := by
        have hne : p.1 ≠ p.2 := (HNS.out _ _ HP.out.2.2).2.2.1
        rw [hy, ho]
        by_cases e : s = 0
        · subst e; exact ⟨HP.out.1, HP.out.2.1, fun h => hne h.symm⟩
        · simp only [sdP, if_neg e]; exact ⟨HP.out.2.1, HP.out.1, hne⟩
      have HSD := Lib.hid (show ∀ (es : List NP) (M : Nat), SdI (netsL g) (firstN g.length) es p s M → ClE (netsL g) (firstN g.length) es y o → M.testBit y = true → SdI (netsL g) (firstN g.length) es p (s + 1) M from fun es M h h1 h2 => by rw [hy] at h1 h2; rw [ho] at h1; exact h.next h1 h2)
      have hyn := HBN.out y hPE.1
      have hon := HBN.out o hPE.2.1
      have HPE := Lib.hid hPE
      have h16 := h16'
      have hin := intoD_any (x := y) hov (by omega) (by omega)
      clear hs' hy ho d1 d2 hgp2 hPE
      go_wp2_with fail
      refine hin.mono ?_
      rintro e w2 ⟨o2, rfl, ho2, hb2⟩
      have hq2 := hq.trans (hb2.mono hq.size)
      have hD2 := hD.below hb2 (Nat.le_refl _)
      have c2 := (hb2.cell (cell_lt c1)).trans c1
      have hov2 : SlI (OffD w2 (w.heap.size + 1) (.slice (some ⟨rb0, ro0, none⟩) es.length ec) (.slice sa (dblP es).length sc)) w2 .i64 o2 (bitsI (M ||| bit y)) := ho2.weak fun b hb => hb.elim (fun h => h.below hb2.size) (fun h => ⟨by have := cell_lt c1; simp only at this; omega, h.2, fun e => by have := (hD.lt.1 b e).2; omega, fun e => by have := (hD.lt.2 b e).2; omega⟩)
      have HQ2 := Lib.hid (HQ.out.more HPE.out.1)
      have HS2 := Lib.hid (HS.out.more (v := y))
      have HMy : RowKit.Hid ((M ||| bit y).testBit y = true) := Lib.hid (or_bit.2 (.inr rfl))
      have hM2 : M ||| bit y < 65536 := Nat.or_lt_two_pow (n := 16) hM (Nat.pow_lt_pow_right (by omega) (show y < 16 by omega))
      obtain ⟨o2a, o2c, rfl⟩ := hov2.slice
      have hz2 : w.heap.size < w2.heap.size := cell_lt c2
      clear hq hD hov c1 ho2 HQ HS hM d0 dy dO hin hb2
      generalize M ||| bit y = M2 at *
      go_wp2
      refine wp_region_held_drew (S := (fun w' => w'.cell? ⟨w.heap.size, 0, none⟩ = some (.slice (some ⟨gb, goff, none⟩) g.length vc))) (by kernel_rfl) ?_ (fun hHeld => ?_)
      · first | exact ‹_› | (simp [*, go_sem])
      have hbd : Below w2.heap.size w2 w2.drew := ((Drawn.refl _).drew).below _
      generalize w2.drew = wd at hbd hHeld ⊢
      have c3 := hHeld
      refine wpAnyH_take (i := 0) (v := ?v1) (by simp only [List.getElem?_toArray, List.getElem?_cons_zero]; exact rfl) (by kernel_rfl) (by kernel_rfl) (by kernel_rfl) (by intro _ _ _ h; exact h) (Or.inl ⟨by rfl, ?y1⟩) hHeld ?_
      case y1 => (intro w hSw; (try dsimp only at hSw); go_simp; try (with_reducible rfl))
      try simp only [Act.put, List.setIfInBounds_toArray, List.set_cons_zero, List.set_cons_succ]
      refine wpAnyH_take (i := 1) (v := ?v2) (by simp only [List.getElem?_toArray, List.getElem?_cons_succ, List.getElem?_cons_zero]; exact rfl) (by kernel_rfl) (by kernel_rfl) (by kernel_rfl) (by intro _ _ _ h; exact h) (Or.inl ⟨by rfl, ?y2⟩) hHeld ?_
      case y2 => (intro w hSw; (try dsimp only at hSw); go_simp; try (with_reducible rfl))
      try simp only [Act.put, List.setIfInBounds_toArray, List.set_cons_zero, List.set_cons_succ]
      refine wpAnyH_take (i := 2) (v := ?v3) (by simp only [List.getElem?_toArray, List.getElem?_cons_succ, List.getElem?_cons_zero]; exact rfl) (by kernel_rfl) (by kernel_rfl) (by kernel_rfl) (by intro _ _ _ h; exact h) (Or.inl ⟨by rfl, ?y3⟩) hHeld ?_
      case y3 => (intro w hSw; (try dsimp only at hSw); go_simp; try (with_reducible rfl))
      try simp only [Act.put, List.setIfInBounds_toArray, List.set_cons_zero, List.set_cons_succ]
      refine wpAnyH_take (i := 4) (v := ?v4) (by simp only [List.getElem?_toArray, List.getElem?_cons_succ, List.getElem?_cons_zero]; exact rfl) (by kernel_rfl) (by kernel_rfl) (by kernel_rfl) (by intro _ _ _ h; exact h) (Or.inl ⟨by rfl, ?y4⟩) hHeld ?_
      case y4 => (intro w hSw; (try dsimp only at hSw); go_simp; try (with_reducible rfl))
      try simp only [Act.put, List.setIfInBounds_toArray, List.set_cons_zero, List.set_cons_succ]
      refine wpAnyH_ready (rs := [3]) (by kernel_rfl) (by simp) ?_
      refine AllReadyH.cons (by simp only [List.getElem?_toArray, List.getElem?_cons_succ, List.getElem?_cons_zero]; exact rfl) (fun K hK => ?_) AllReadyH.nil
      go_simp
      refine (HWO.out y hyn wd (hq2.trans (hbd.mono hq2.size))).mono ?_
      rintro e w3 ⟨x1, rfl, hx1, hbn⟩
      have hb3 := hbd.trans (hbn.mono hbd.size)
      have c4 := (hbn.cell (cell_lt c3)).trans c3
      try dsimp only
      refine hK.out _ _ ?h6 (fun hHeld => ?_)
      case h6 => first | exact ‹_› | (simp [*, go_sem])
      clear hK K
      try simp only [Act.put, List.setIfInBounds_toArray, List.set_cons_zero, List.set_cons_succ]
      refine wpAnyH_ready (rs := [5]) (by kernel_rfl) (by simp) ?_
      refine AllReadyH.cons (by simp only [List.getElem?_toArray, List.getElem?_cons_succ, List.getElem?_cons_zero]; exact rfl) (fun K hK => ?_) AllReadyH.nil
      go_simp
      refine (HRE.out y o hyn hon w3 (hq2.trans (hb3.mono hq2.size)) _ _ hx1.ints).mono ?_
      rintro e w4 ⟨nv, rfl, hnv, hbm⟩
      have hb4 := hb3.trans (hbm.mono hb3.size)
      have c5 := (hbm.cell (cell_lt c4)).trans c4
      try dsimp only
      refine hK.out _ _ ?h8 (fun hHeld => ?_)
      case h8 => first | exact ‹_› | (simp [*, go_sem])
      clear hK K
      try simp only [Act.put, List.setIfInBounds_toArray, List.set_cons_zero, List.set_cons_succ]
      refine wpAnyH_take (i := 6) (v := ?v9) (by simp only [List.getElem?_toArray, List.getElem?_cons_succ, List.getElem?_cons_zero]; exact rfl) (by kernel_rfl) (by kernel_rfl) (by kernel_rfl) (by intro _ _ _ h; exact h) (Or.inl ⟨by rfl, ?y9⟩) hHeld ?_
      case y9 => (intro w hSw; (try dsimp only at hSw); go_simp; try (with_reducible rfl))
      try simp only [Act.put, List.setIfInBounds_toArray, List.set_cons_zero, List.set_cons_succ]
      refine wpAnyH_done (by kernel_rfl) ?_ _
      have hq4 := hq2.trans (hb4.mono hq2.size)
      have hD4 := hD2.below hb4 (Nat.le_refl _)
      have hov4 := hov2.offDB hb4
      have hR16 : reachN (netsL g) (wo (firstN g.length) y) o < 4294967296 := reachN_lt _ _ _
      have hs3 := hb3.size
      have hnv4 : SlI (OffD w4 (w.heap.size + 1) (.slice (some ⟨rb0, ro0, none⟩) es.length ec) (.slice sa (dblP es).length sc)) w4 .i64 nv (bitsI (reachN (netsL g) (wo (firstN g.length) y) o)) := hnv.ints.weak fun b hb => by
        have h1 := hnv.lt b hb
        exact ⟨by omega, h1.2, fun e => by have := (hD2.lt.1 b e).2; omega, fun e => by have := (hD2.lt.2 b e).2; omega⟩
      obtain ⟨na, nc, rfl⟩ := hnv4.slice
      have HIN0 : RowKit.Hid (InI es y (reachN (netsL g) (wo (firstN g.length) y) o) (bitsN ((netsL g).getD y 0)) 0) := Lib.hid (fun j hj => by omega)
      have HIND := Lib.hid (fun (es : List NP) (i : Nat) (h : InI es y (reachN (netsL g) (wo (firstN g.length) y) o) (bitsN ((netsL g).getD y 0)) i) (hi : (bitsN ((netsL g).getD y 0)).length ≤ i) => h.done (fun w hw => (mem_bitsN (HN32.out y)).2 hw) hi)
      have HST := Lib.hid (fun (es : List NP) (z : Nat) (h : QBI (netsL g) (firstN g.length) B u x es k M2) (hk : k ≤ es.length) (hz : ((netsL g).getD y 0).testBit z = true) (hr : (reachN (netsL g) (wo (firstN g.length) y) o).testBit z = true) (hno : ((y, z) : NP) ∉ dblP es) => HSTEP.out es k M2 h hk y o z HPE.out.1 HPE.out.2.1 HPE.out.2.2 hz hr hno)
      have HLM := Lib.hid (fun (i : Nat) (hi : i < (bitsN ((netsL g).getD y 0)).length) => (mem_bitsN (HN32.out y)).1 (List.getElem_mem hi))
      have hRL := bitsI_len (reachN (netsL g) (wo (firstN g.length) y) o)
      have HLL := Lib.hid (show (bitsN ((netsL g).getD y 0)).length ≤ 32 from popN_32 _)
      have HRB := Lib.hid (fun (z : Nat) => show decide ((z : Int) ∈ bitsI (reachN (netsL g) (wo (firstN g.length) y) o)) = (reachN (netsL g) (wo (firstN g.length) y) o).testBit z by
        rw [Bool.eq_iff_iff, decide_eq_true_eq, mem_bitsI (reachN_lt _ _ _), Int.toNat_natCast]; exact ⟨fun h => h.2, fun h => ⟨by omega, h⟩⟩)
      clear hq2 hD2 hov2 c2 hbd c3 hx1 hbn c4 hb3 hnv hbm hb4 hs3 hz2
      have HROWy := Lib.hid (fun (W : World) (hb : Below w.heap.size w W) => HROW.out y hyn W hb)
      have HADJ := Lib.hid (show ∀ z, ((netsL g).getD y 0).testBit z = true → z < g.length from fun z hz => (HNS.out y z hz).2.1)
      generalize reachN (netsL g) (wo (firstN g.length) y) o = R at *
      generalize hl : bitsN ((netsL g).getD y 0) = l at *
      clear hl
      go_wp2
      go_loopw [8, 9, 15] (fun ev sv iv wr => ∃ (es : List NP) (i : Nat), i ≤ l.length ∧ iv = .int .i64 (i : Int) ∧ k < es.length ∧ es.length ≤ 128 ∧ es[k]? = some p ∧ RowKit.Hid (QBI (netsL g) (firstN g.length) B u x es k M2) ∧ RowKit.Hid (SdI (netsL g) (firstN g.length) es p s M2) ∧ RowKit.Hid (InI es y R l i) ∧ Duo wr (w.heap.size + 1 + 1) 26 ev sv (rowsP es) (rowsP (dblP es)) ∧ SlI (OffD wr (w.heap.size + 1) ev sv) wr .i64 (.slice o2a (bitsI M2).length o2c) (bitsI M2) ∧ SlI (OffD wr (w.heap.size + 1) ev sv) wr .i64 (.slice na (bitsI R).length nc) (bitsI R) ∧ Below w.heap.size w wr ∧ wr.cell? ⟨w.heap.size, 0, none⟩ = some (.slice (some ⟨gb, goff, none⟩) g.length vc)) (fun _ _ iv _ => 64 - (RowKit.intOf iv).toNat)
      case atStart => exact ⟨es, 0, Nat.zero_le _, rfl, hlt, hes, hgp, HQ2, HS2, HIN0, by simpa only [rowsP_len] using hD4, hov4, hnv4, hq4, c5⟩
      case round =>
        clear hlt hes hgp HQ2 HS2 HIN0 hD4 hov4 hnv4 hq4 c5
        obtain ⟨es, i, hi, rfl, hlt, hes, hgp, HQ, HS, HI, hD, hov, hnv, hq, c1⟩ := hrel
        obtain ⟨⟨ea, ec, rfl⟩, sa, sc, rfl⟩ := hD.isSlice
        simp only [rowsP_len] at *
        have hll := HLL.out
        obtain ⟨ra, rc, r0, rb2, ro2, hra, hrc⟩ := HROWy.out wr hq
        by_cases hil : i < l.length
        case neg =>
          have HS3 := Lib.hid (HSD.out es M2 HS.out (HIND.out es i HI.out (by omega)) HMy.out)
          go_wp2
          go_roundw
          case rel => exact ⟨es, M2, s + 1, by omega, by go_num, hlt, hes, hgp, HQ, HS3, hM2, by simpa only [rowsP_len] using hD, hov, hq, c1⟩
          case measure => simp [RowKit.intOf]; omega
        have hra2 := hra (by omega)
        subst hra2
        have r1 := hrc i hil
        have hz := HLM.out i hil
        have HGI := Lib.hid (List.getElem?_eq_getElem hil)
        clear hra hrc
        generalize l[i] = z at *
        have hzn := HADJ.out z hz
        have HZ := Lib.hid hz
        have hha := l1Has_any _ _ (z : Int) wr hnv
        rw [HRB.out z] at hha
        have hhs := l19HasP_any (x := y) (y := z) (hD.rowsR (by simp only [rowsP_len, dblP_len]; omega))
        clear hz
        cases hrz : R.testBit z with
        | false =>
          have HI2 := Lib.hid (HI.out.next HGI.out (fun h => by rw [hrz] at h; cases h))
          rw [hrz] at hha
          clear hrz
          go_wp2_with (first | (go_at_call 36; with_reducible refine hha.mono ?_; rintro e w' ⟨rfl, rfl⟩) | (go_at_call 111; with_reducible refine hhs.mono ?_; rintro e w' ⟨rfl, rfl⟩) | fail)
          go_roundw
          case rel => exact ⟨es, i + 1, by omega, by go_num, hlt, hes, hgp, HQ, HS, HI2, by simpa only [rowsP_len] using hD, hov, hnv, hq, c1⟩
          case measure => simp [RowKit.intOf]; omega
        | true =>
          rw [hrz] at hha
          cases hin : decide (((y, z) : NP) ∈ dblP es) with
          | true =>
            have HI2 := Lib.hid (HI.out.next HGI.out (fun _ => of_decide_eq_true hin))
            rw [hin] at hhs
            clear hin hrz
            go_wp2_with (first | (go_at_call 36; with_reducible refine hha.mono ?_; rintro e w' ⟨rfl, rfl⟩) | (go_at_call 111; with_reducible refine hhs.mono ?_; rintro e w' ⟨rfl, rfl⟩) | fail)
            go_roundw
            case rel => exact ⟨es, i + 1, by omega, by go_num, hlt, hes, hgp, HQ, HS, HI2, by simpa only [rowsP_len] using hD, hov, hnv, hq, c1⟩
            case measure => simp [RowKit.intOf]; omega
          | false =>
            have HQ3 := Lib.hid (HST.out es z HQ.out (by omega) HZ.out hrz (of_decide_eq_false hin))
            have HS3 := Lib.hid (HS.out.snoc (q := ((y, z) : NP)))
            have HI3 := Lib.hid (HI.out.snoc (q := ((y, z) : NP)) |>.next HGI.out (fun _ => mem_dblP.2 ⟨((y, z) : NP), by simp, .inl rfl⟩))
            have hes3 := HQ3.out.e.len HB16.out
            have HGP3 : RowKit.Hid ((es ++ [((y, z) : NP)])[k]? = some p) := Lib.hid (by rw [List.getElem?_append_left hlt]; exact hgp)
            have HR1 := Lib.hid (show rowsP (es ++ [((y, z) : NP)]) = rowsP es ++ [[(y : Int), (z : Int)]] by rw [rowsP_app]; rfl)
            have HR2 := Lib.hid (show rowsP (dblP (es ++ [((y, z) : NP)])) = rowsP (dblP es) ++ [[(y : Int), (z : Int)], [(z : Int), (y : Int)]] by rw [dblP_snoc, rowsP_app]; rfl)
            have hdl : (dblP es).length ≤ 256 := by rw [dblP_len]; omega
            have HE3 := Lib.hid hes3
            rw [hin] at hhs
            have hB2 : w.heap.size + 1 + 1 ≤ wr.heap.size := hD.size (by rw [rowsP_len]; omega)
            obtain ⟨vs1, hA1, hA2⟩ := hD.add1 (E1 := 2) (EO := 26) (y : Int) (z : Int) rfl hB2
            simp only [rowsP_len] at hA1 hA2
            clear hin hrz hes3
            go_wp2_with (first | (go_at_call 36; with_reducible refine hha.mono ?_; rintro e w' ⟨rfl, rfl⟩) | (go_at_call 111; with_reducible refine hhs.mono ?_; rintro e w' ⟨rfl, rfl⟩) | (at_builtin; refine wpList_append1b elRows rfl _ _ rfl hA1 rfl (by simp) rfl rfl (by omega) (by simp; omega) ?_; intro e3 w3 ho3 hk3 hm3; obtain ⟨hst3, hD3⟩ := hA2 _ _ ho3 hk3 hm3; rw [← HR1.out] at hD3; obtain ⟨⟨e3a, e3c, e3e⟩, -⟩ := hD3.isSlice; rw [rowsP_len] at e3e; subst e3e; refine hold_in ?_) | fail)
            have hq3 := hst3.below hD (by omega) hq (by omega)
            have c3 := hst3.cell hD (by omega) c1
            have hov3 := hov.offL hst3
            have hnv3 := hnv.offL hst3
            have hB3 : w.heap.size + 1 + 1 ≤ w3.heap.size := Nat.le_trans hB2 hst3.1.2.2.2.1
            clear hq c1 hov hnv hD hA1 hA2 ho3 hk3 hm3 hst3 hha hhs hB2
            unfold HoldP
            have hDd1 := hD3.lay (E1 := 2) hB3 (y : Int) (z : Int)
            obtain ⟨wA, hwA⟩ : ∃ x, x = w3.alloc (.cells #[.int .i64 (y : Int), .int .i64 (z : Int)] 2) := ⟨_, rfl⟩
            have hsA : wA.heap.size = w3.heap.size + 1 := by rw [hwA]; simp
            rw [← hwA] at hDd1
            have hDA := hD3.below hDd1.1 (Nat.le_refl _)
            have hDd2 := hDA.lay (E1 := 2) (by omega) (z : Int) (y : Int)
            rw [hsA] at hDd2
            obtain ⟨wB, hwB⟩ : ∃ x, x = wA.alloc (.cells #[.int .i64 (z : Int), .int .i64 (y : Int)] 2) := ⟨_, rfl⟩
            have hsB : wB.heap.size = w3.heap.size + 1 + 1 := by rw [hwB]; simp; omega
            rw [← hwB] at hDd2
            have hDB := hDA.below hDd2.1 (by omega)
            obtain ⟨vs2, hC1, hC2⟩ := hDB.add2 (hDd1.2.offDB (by rw [hsA]; exact hDd2.1)) hDd2.2
            have hqB := (hDd1.1.trans (hDd2.1.mono (by omega)))
            have HWB := Lib.hid (show wB = (w3.alloc (.cells #[.int .i64 (y : Int), .int .i64 (z : Int)] 2)).alloc (.cells #[.int .i64 (z : Int), .int .i64 (y : Int)] 2) by rw [hwB, hwA])
            clear hDd1 hDA hDd2 hsA hwA hwB
            go_wp2_with (at_builtin; rw [← HWB.out]; refine hold_in ?_)
            unfold HoldP
            refine wpList_append2 elRows rfl _ _ rfl hC1 rfl hsB.symm rfl rfl rfl (by simp only [rowsP_len]; omega) (by omega) ?_
            intro s5 w5 ho5 hk5 hm5
            obtain ⟨hst5, hD5⟩ := hC2 _ _ _ ho5 hk5 hm5 (by simp)
            rw [← HR2.out] at hD5
            obtain ⟨-, s5a, s5c, s5e⟩ := hD5.isSlice
            subst s5e
            have hq5 := hst5.below hDB.swap (by omega) (hq3.trans (hqB.mono hq3.size)) (by omega)
            have c5 := hst5.cell hDB.swap (by omega) ((hqB.cell (cell_lt c3)).trans c3)
            have hov5 := (hov3.offDB hqB).offR hst5
            have hnv5 := (hnv3.offDB hqB).offR hst5
            rw [show (es ++ [((y, z) : NP)]).length = es.length + 1 by simp] at hD5 hov5 hnv5
            clear hC1 hC2 hDB hk5 hm5 ho5 hst5 hqB hov3 hnv3 hD3 hq3 c3
            go_wp2
            go_roundw
            case rel => exact ⟨es ++ [((y, z) : NP)], i + 1, by omega, by go_num, by simp; omega, HE3.out, HGP3.out, HQ3, HS3, HI3, hD5, hov5, hnv5, hq5, c5⟩
            case measure => simp [RowKit.intOf]; omega
end Go.Proofs.YtmcaccacdbcnmaaDoor
