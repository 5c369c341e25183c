/- Blocks of the reference: BlocksOf, BlocksAt. -/
import Derived.Test.YtmcaccacdbcnmaaDoorBlk1
import Derived.Test.YtmcaccacdbcnmaaDoorMod2
namespace Go.Proofs.YtmcaccacdbcnmaaDoor
open Go.RowKit
theorem EdgT.done {a : List Nat} {U k : Nat} {ms l : List Nat} (h : EdgT a U ms k l) (hl : ∀ y, (a.getD k 0).testBit y = true → y ∈ l) : EdgT a U ms (k + 1) [] := fun B hB x y hP hx hy he => by
  refine h B hB x y ?_ hx hy he
  rcases hP with hP | ⟨_, hP⟩
  · by_cases e : x = k
    · subst e; exact .inr ⟨rfl, hl y he⟩
    · exact .inl (by omega)
  · simp at hP
theorem EdgT.mono {a : List Nat} {U k : Nat} {ms T : List Nat} {b : Nat} (h : EdgT a U ms k T) (hb : b < 4294967296) (hm : ∀ m ∈ ms, m < 4294967296) : EdgT a U (putM ms b) k T := fun B hB x y hP hx hy he => (mem_putM hb hm).2 (.inl (h B hB x y hP hx hy he))
theorem PutI.lt {a : List Nat} {U : Nat} {ms : List Nat} (h : PutI a U ms) (hU : U < 4294967296) (hsy : SymA a) : ∀ m ∈ ms, m < 4294967296 := fun m hm => blk_lt (n := 32) hU ((all_facts hU hsy).1 m (h.sub m hm)).1
/-- What the list of blocks is. -/
def BlkL (g : List (List Int)) (ms : List Nat) : Prop := PutI (netsL g) (firstN g.length) ms ∧ ∀ B, B ∈ ms ↔ B ∈ allB (netsL g) (firstN g.length)
theorem putM_any {B ob oc b : Nat} {u : Value} {ms : List Nat} {w : World} (hv : OwnS w B 26 (.slice (some ⟨ob, 0, none⟩) ms.length oc) (ms.map bitsI)) (hu : SlI (fun b => B ≤ b ∧ b < w.heap.size) w .i64 u (bitsI b)) (hB : B ≤ w.heap.size) (hgl : ms.length ≤ 100000) :
    Calls Tryd.prog 70 #[.slice (some ⟨ob, 0, none⟩) ms.length oc, u] w fun e w' => ∃ ob' oc', e = .returned (.slice (some ⟨ob', 0, none⟩) (putM ms b).length oc') ∧ OwnS w' B 26 (.slice (some ⟨ob', 0, none⟩) (putM ms b).length oc') ((putM ms b).map bitsI) ∧ Below w.heap.size w w' := by
  have h := l19Put_any (g := ms.map bitsI) (x := bitsI b) (oc := oc) (ob := ob) (by rw [List.length_map]; exact hv) hu hB (by rw [List.length_map]; exact hgl)
  rw [List.length_map, ← putM_map, List.length_map] at h
  exact h
set_option maxRecDepth 100000 in
set_option maxHeartbeats 8000000 in
theorem specBlocksOf_any {S : Nat → Prop} {v : Value} {g : List (List Int)} {w : World} (hv : SlR S w v g) :
    Calls Tryd.prog 35 #[.agg #[v]] w fun e w' => ∃ ob oc ms, e = .returned (.slice (some ⟨ob, 0, none⟩) ms.length oc) ∧ OwnS w' w.heap.size 26 (.slice (some ⟨ob, 0, none⟩) ms.length oc) (ms.map bitsI) ∧ ms.length ≤ 65536 ∧ (gokB g = true → BlkL g ms) ∧ (gokB g = false → ms = []) ∧ Below w.heap.size w w' := by
  have hvS := hv
  obtain ⟨va, vc, rfl⟩ := hvS.slice
  have hq0 : Below w.heap.size w ((w.alloc (.cells #[.slice va g.length vc] 28)).alloc (.cells #[] 26)) := ((Below.refl _ _).alloc (Nat.le_refl _) _).alloc (by simp) _
  have c0 : ((w.alloc (.cells #[.slice va g.length vc] 28)).alloc (.cells #[] 26)).cell? ⟨w.heap.size, 0, none⟩ = some (.slice va g.length vc) := by simp [go_sem]
  have hS0 := OwnS.empty (w.alloc (.cells #[.slice va g.length vc] 28)) (w.heap.size + 1) 26 (by simp)
  rw [show (w.alloc (.cells #[.slice va g.length vc] 28)).heap.size = w.heap.size + 1 by simp] at hS0
  have hgo := specGraphOk_any _ _ _ (hv.below hq0 (Nat.le_refl _))
  by_cases hgg : gokB g = true
  case neg =>
    have hg' : gokB g = false := by simpa using hgg
    rw [hg'] at hgo ⊢
    clear hgg hg'
    go_enter Tryd.func35, Tryd.ntmps35
    go_wp2_with fail
    refine hgo.mono ?_
    rintro e w1 ⟨rfl, hb1⟩
    have hS1 := hS0.below hb1 (Nat.le_refl _)
    clear hgo hS0
    go_wp2
    go_ret
    exact ⟨w.heap.size + 1, 0, [], rfl, by simpa using hS1.weak (B' := w.heap.size) (by omega), by simp, (fun h => by cases h), fun _ => rfl, hq0.trans (hb1.mono hq0.size)⟩
  have hg := gokB_iff.1 hgg
  rw [hgg] at hgo ⊢
  have hsy : SymA (netsL g) := fun _ _ h => (net_sym hg h).2.2.2
  have hir : IrrA (netsL g) := net_irr hg
  have h16 := hg.hi
  have hU16 : firstN g.length < 65536 := firstN_lt h16
  have hU : firstN g.length < 4294967296 := by omega
  obtain ⟨f1, f2, f3, f4⟩ := all_facts (a := netsL g) hU hsy
  obtain ⟨ga, gb, goff, gcap, gf, hve, hgl, hga, hgc⟩ := hv
  simp only [Value.slice.injEq, true_and] at hve
  obtain ⟨rfl, rfl⟩ := hve
  obtain ⟨rfl, -⟩ := hga (by have := hg.lo; omega)
  have HROW := Lib.hid (fun (k : Nat) (hk : k < g.length) (W : World) (hb : Below w.heap.size w W) => show ∃ ra rc, W.cell? ⟨gb, goff + k, none⟩ = some (.slice ra (bitsN ((netsL g).getD k 0)).length rc) ∧ ∃ rb ro, (0 < (bitsN ((netsL g).getD k 0)).length → ra = some ⟨rb, ro, none⟩) ∧ ∀ i (h : i < (bitsN ((netsL g).getD k 0)).length), W.cell? ⟨rb, ro + i, none⟩ = some (.int .i64 (((bitsN ((netsL g).getD k 0))[i] : Nat) : Int)) from by
    obtain ⟨hgr0, hrow0⟩ := hgc k hk
    have hrow0 := hrow0.below hb (Nat.le_refl _)
    have hgr0 := (hb.cell (cell_lt hgr0)).trans hgr0
    have hgk : g[k] = natsI (bitsN ((netsL g).getD k 0)) := by rw [row_bits hg hk, bits_nats]
    rw [hgk] at hrow0
    obtain ⟨rb, ro, rc0, hre0, hrc⟩ := hrow0.at_
    obtain ⟨ra, rc, hre⟩ := hrow0.slice
    rw [hre] at hgr0 hre0
    rw [natsI_len] at hgr0 hre0
    refine ⟨ra, rc, hgr0, rb, ro, fun h0 => ?_, fun i hi => ?_⟩
    · have := hre0 h0
      simp only [Value.slice.injEq] at this
      exact this.1
    · rw [hrc i (by rw [natsI_len]; exact hi), natsI_get])
  have HNS := Lib.hid (fun (y z : Nat) (h : ((netsL g).getD y 0).testBit z = true) => net_sym hg h)
  have HN32 := Lib.hid (net_lt32 hg)
  have HBLK := Lib.hid (fun (B u x : Nat) (hB : B ∈ allB (netsL g) (firstN g.length)) (hu : B.testBit u = true) (hx : B.testBit x = true) (he : ((netsL g).getD u 0).testBit x = true) (W : World) (hb : Below w.heap.size w W) => l19Block_any (w := W) hg (hvS.below hb (Nat.le_refl _)) (f1 B hB).1 hu hx he)
  have HEX := Lib.hid (fun (x y : Nat) (he : ((netsL g).getD x 0).testBit y = true) => f2 x y (by rw [testBit_firstN, decide_eq_true_eq]; exact (net_sym hg he).1) (by rw [testBit_firstN, decide_eq_true_eq]; exact (net_sym hg he).2.1) he)
  have HLT := Lib.hid (fun (B : Nat) (hB : B ∈ allB (netsL g) (firstN g.length)) => show B < 65536 from blk_lt (n := 16) hU16 (f1 B hB).1)
  have HPUT := Lib.hid (fun (ms : List Nat) (b : Nat) (h : PutI (netsL g) (firstN g.length) ms) (hb : b ∈ allB (netsL g) (firstN g.length)) => h.put hU hsy hb)
  have HPL := Lib.hid (fun (ms : List Nat) (h : PutI (netsL g) (firstN g.length) ms) => h.len hU16 hsy)
  have HPT := Lib.hid (fun (ms : List Nat) (h : PutI (netsL g) (firstN g.length) ms) => h.lt hU hsy)
  have HEP := Lib.hid (fun (ms T : List Nat) (b k z : Nat) (h : EdgT (netsL g) (firstN g.length) ms k T) (hm : ∀ m ∈ ms, m < 4294967296) (hb : b ∈ allB (netsL g) (firstN g.length)) (h1 : b.testBit k = true) (h2 : b.testBit z = true) (he : ((netsL g).getD k 0).testBit z = true) => h.put hU hsy hir hm hb h1 h2 he)
  have HISO := Lib.hid (fun (r : Nat) (hr : r < g.length) (h : bitsN ((netsL g).getD r 0) = []) => show bit r ∈ allB (netsL g) (firstN g.length) from by
    have hrU : (firstN g.length).testBit r = true := by rw [testBit_firstN, decide_eq_true_eq]; exact hr
    obtain ⟨i1, i2⟩ := one_iso (a := netsL g) hU hrU
    have h3 := i1.2 (fun y _ he => by
      have hm := (mem_bitsN (net_lt32 hg r)).2 he
      rw [h] at hm
      simp at hm)
    rw [← i2 h3]
    exact f4 r hrU h3)
  have HFIN := Lib.hid (fun (ms : List Nat) (h : PutI (netsL g) (firstN g.length) ms) (h1 : EdgT (netsL g) (firstN g.length) ms g.length []) (h2 : IsoT (netsL g) (firstN g.length) ms g.length) => show BlkL g ms from ⟨h, put_all h hU hsy (fun B hB ⟨x, y, hx, hy, he⟩ => h1 B hB x y (.inl (net_sym hg he).1) hx hy he) (fun r hr hno => h2 r (by rw [testBit_firstN, decide_eq_true_eq] at hr; exact hr) hr hno)⟩)
  have HI0 : RowKit.Hid (PutI (netsL g) (firstN g.length) []) := Lib.hid ⟨by simp, fun B hB => by simp at hB⟩
  have HE0 : RowKit.Hid (EdgT (netsL g) (firstN g.length) [] 0 []) := Lib.hid (fun B hB x y hP => by rcases hP with h | ⟨_, h⟩; omega; simp at h)
  have HS0 : RowKit.Hid (IsoT (netsL g) (firstN g.length) [] 0) := Lib.hid (fun r hr => by omega)
  clear hgc hgl hga f1 f2 f3 f4 hU hU16 hsy hir hgg hg
  go_enter Tryd.func35, Tryd.ntmps35
  go_wp2_with fail
  refine hgo.mono ?_
  rintro e w1 ⟨rfl, hb1⟩
  have hS1 := hS0.below hb1 (Nat.le_refl _)
  have c1 := (hb1.cell (cell_lt c0)).trans c0
  have hq1 := hq0.trans (hb1.mono hq0.size)
  clear hgo hS0 c0 hq0 hb1
  go_wp2
  go_loopw [3, 4] (fun ov uv wr => ∃ (ms : List Nat) (ob oc u : Nat), u ≤ g.length ∧ ms.length ≤ 65536 ∧ uv = .int .i64 (u : Int) ∧ ov = .slice (some ⟨ob, 0, none⟩) ms.length oc ∧ OwnS wr (w.heap.size + 1) 26 (.slice (some ⟨ob, 0, none⟩) ms.length oc) (ms.map bitsI) ∧ RowKit.Hid (PutI (netsL g) (firstN g.length) ms) ∧ RowKit.Hid (EdgT (netsL g) (firstN g.length) ms u []) ∧ RowKit.Hid (IsoT (netsL g) (firstN g.length) ms u) ∧ Below w.heap.size w wr ∧ wr.cell? ⟨w.heap.size, 0, none⟩ = some (.slice (some ⟨gb, goff, none⟩) g.length vc)) (fun _ uv _ => 32 - (RowKit.intOf uv).toNat)
  case atStart => exact ⟨[], _, _, 0, Nat.zero_le _, by simp, rfl, rfl, hS1, HI0, HE0, HS0, hq1, c1⟩
  case round =>
    clear hS1 HI0 HE0 HS0 hq1 c1
    obtain ⟨ms, ob, oc, u, hu, hml, rfl, rfl, hO, HI, HE, HS, hq, c1⟩ := hrel
    by_cases hlt : u < g.length
    case neg =>
      have hue : u = g.length := by omega
      have HF := Lib.hid (HFIN.out ms HI.out (by have := HE.out; rw [hue] at this; exact this) (by have := HS.out; rw [hue] at this; exact this))
      have hO2 := hO.weak (show w.heap.size ≤ w.heap.size + 1 by omega)
      clear hue
      go_wp2
      go_ret
      exact ⟨ob, oc, ms, rfl, hO2, hml, fun _ => HF.out, fun h => (by cases h), hq⟩
    have hB1 : w.heap.size + 1 ≤ wr.heap.size := cell_lt c1
    obtain ⟨ra, rc, r0, rb, ro, hra, hrc⟩ := HROW.out u hlt wr hq
    have hll : (bitsN ((netsL g).getD u 0)).length ≤ 32 := popN_32 _
    have HLM := Lib.hid (fun (i : Nat) (hi : i < (bitsN ((netsL g).getD u 0)).length) => (mem_bitsN (HN32.out u)).1 (List.getElem_mem hi))
    have HLD := Lib.hid (fun (ms : List Nat) (h : EdgT (netsL g) (firstN g.length) ms u (bitsN ((netsL g).getD u 0))) => h.done (fun y hy => (mem_bitsN (HN32.out u)).2 hy))
    have HRWu := Lib.hid (fun (W : World) (hb : Below w.heap.size w W) => HROW.out u hlt W hb)
    have HISu := Lib.hid (fun h => HISO.out u hlt h)
    have HNOT := Lib.hid (fun (ms : List Nat) (hs : IsoT (netsL g) (firstN g.length) ms u) (h : 0 < (bitsN ((netsL g).getD u 0)).length) => show IsoT (netsL g) (firstN g.length) ms (u + 1) from fun r hr h1 h2 => by
      by_cases e : r = u
      · subst e
        exfalso
        have hz := HLM.out 0 h
        have hn := HNS.out _ _ hz
        exact hn.2.2.1 (h2 _ (by rw [testBit_firstN, decide_eq_true_eq]; exact hn.2.1) hz).symm
      · exact hs r (by omega) h1 h2)
    generalize hl : bitsN ((netsL g).getD u 0) = l at *
    have HL := Lib.hid hl
    clear hl
    by_cases hemp : l.length = 0
    · have hle : l = [] := List.eq_nil_of_length_eq_zero hemp
      subst hle
      have HBU := Lib.hid (HISu.out rfl)
      have HM := Lib.hid (HPT.out ms HI.out)
      have hbl : bit u < 4294967296 := bit_lt (by omega)
      have HI2 := Lib.hid (HPUT.out ms (bit u) HI.out HBU.out)
      have HE2 := Lib.hid (HLD.out _ (HE.out.mono hbl HM.out))
      have HS2 : RowKit.Hid (IsoT (netsL g) (firstN g.length) (putM ms (bit u)) (u + 1)) := Lib.hid (fun r hr h1 h2 => by
        by_cases e : r = u
        · subst e; exact (mem_putM hbl HM.out).2 (.inr rfl)
        · exact (mem_putM hbl HM.out).2 (.inl (HS.out r (by omega) h1 h2)))
      have hml2 := HPL.out _ HI2.out
      have hba : Below wr.heap.size wr (wr.alloc (.cells #[.int .i64 (u : Int)] 2)) := (Below.refl _ _).alloc (Nat.le_refl _) _
      have hrow : SlI (fun b => w.heap.size + 1 ≤ b ∧ b < (wr.alloc (.cells #[.int .i64 (u : Int)] 2)).heap.size) (wr.alloc (.cells #[.int .i64 (u : Int)] 2)) .i64 (.slice (some ⟨wr.heap.size, 0, none⟩) 1 1) (bitsI (bit u)) := by
        rw [bitsI_bit (by omega)]
        exact (SlI.lit wr 2 [(u : Int)] 1 rfl (by omega) (by omega)).weak fun b hb => by subst hb; exact ⟨hB1, by simp⟩
      have hput := putM_any (b := bit u) (hO.below hba (Nat.le_refl _)) hrow (by simp; omega) (by omega)
      have hqa := hq.trans (hba.mono hq.size)
      have ca := (hba.cell (cell_lt c1)).trans c1
      have hz0 : ((([] : List Nat).length : Int) == 0) = true := by simp
      clear hO hrow hba HM hemp hbl
      go_wp2_with (go_at_call 70; refine hput.mono ?_; rintro e w2 ⟨ob2, oc2, rfl, hO2, hb2⟩; have hq2 := hqa.trans (hb2.mono hqa.size); have c2 := (hb2.cell (cell_lt ca)).trans ca; obtain ⟨ra2, rc2, r2, -⟩ := HRWu.out w2 hq2)
      clear c1 r0 hrc hra ca hq hqa hput
      go_loopw [3, 5] (fun ov iv wr => ov = .slice (some ⟨ob2, 0, none⟩) (putM ms (bit u)).length oc2 ∧ iv = .int .i64 0 ∧ wr = w2) (fun _ _ _ => 0)
      case atStart => exact ⟨rfl, rfl, rfl⟩
      case round =>
        obtain ⟨rfl, rfl, rfl⟩ := hrel
        go_wp2
        go_roundw
        case rel => exact ⟨putM ms (bit u), ob2, oc2, u + 1, by omega, hml2, by go_num, rfl, hO2, HI2, HE2, HS2, hq2, c2⟩
        case measure => simp [RowKit.intOf]; omega
    · have hlz : ((l.length : Int) == 0) = false := by rw [beq_eq_false_iff_ne]; omega
      have hlz2 : (l.length == 0) = false := by rw [beq_eq_false_iff_ne]; exact hemp
      have HNU := Lib.hid (fun (ms : List Nat) (hs : IsoT (netsL g) (firstN g.length) ms u) => HNOT.out ms hs (by omega))
      have HEl : RowKit.Hid (EdgT (netsL g) (firstN g.length) ms u (l.take 0)) := HE
      clear hra hrc HISu HNOT hemp
      go_wp2
      go_loopw [3, 5] (fun ov iv wr => ∃ (ms : List Nat) (ob oc i : Nat), i ≤ l.length ∧ ms.length ≤ 65536 ∧ iv = .int .i64 (i : Int) ∧ ov = .slice (some ⟨ob, 0, none⟩) ms.length oc ∧ OwnS wr (w.heap.size + 1) 26 (.slice (some ⟨ob, 0, none⟩) ms.length oc) (ms.map bitsI) ∧ RowKit.Hid (PutI (netsL g) (firstN g.length) ms) ∧ RowKit.Hid (EdgT (netsL g) (firstN g.length) ms u (l.take i)) ∧ RowKit.Hid (IsoT (netsL g) (firstN g.length) ms u) ∧ Below w.heap.size w wr ∧ wr.cell? ⟨w.heap.size, 0, none⟩ = some (.slice (some ⟨gb, goff, none⟩) g.length vc)) (fun _ iv _ => 64 - (RowKit.intOf iv).toNat)
      case atStart => exact ⟨ms, ob, oc, 0, Nat.zero_le _, hml, rfl, rfl, hO, HI, HEl, HS, hq, c1⟩
      case round =>
        clear hml hO HI HE HEl HS hq c1 r0 hB1
        obtain ⟨ms, ob, oc, i, hi, hml, rfl, rfl, hO, HI, HE, HS, hq, c1⟩ := hrel
        have hB1 : w.heap.size + 1 ≤ wr.heap.size := cell_lt c1
        obtain ⟨ra, rc, r0, rb, ro, hra, hrc⟩ := HRWu.out wr hq
        by_cases hil : i < l.length
        case neg =>
          have hie : i = l.length := by omega
          have HE2 := Lib.hid (HLD.out ms (by have := HE.out; rw [hie, List.take_length] at this; exact this))
          have HS2 := Lib.hid (HNU.out ms HS.out)
          clear hie
          go_wp2
          go_roundw
          case rel => exact ⟨ms, ob, oc, u + 1, by omega, hml, by go_num, rfl, hO, HI, HE2, HS2, hq, c1⟩
          case measure => simp [RowKit.intOf]; omega
        have hra2 := hra (by omega)
        subst hra2
        have r1 := hrc i hil
        have hz := HLM.out i hil
        have HT := Lib.hid (show l.take (i + 1) = l.take i ++ [l[i]] from List.take_succ_eq_append_getElem hil)
        generalize l[i] = z at *
        obtain ⟨b, hb, hbu, hbz⟩ := HEX.out u z hz
        have hblk := fun (W : World) (h : Below w.heap.size w W) => HBLK.out b u z hb hbu hbz hz W h
        have HM := Lib.hid (HPT.out ms HI.out)
        have hb32 : b < 4294967296 := by have := HLT.out b hb; omega
        have HI2 := Lib.hid (HPUT.out ms b HI.out hb)
        have HE2 : RowKit.Hid (EdgT (netsL g) (firstN g.length) (putM ms b) u (l.take (i + 1))) := Lib.hid (by rw [HT.out]; exact HEP.out ms (l.take i) b u z HE.out HM.out hb hbu hbz hz)
        have HS2 := Lib.hid (HS.out.put hb32 HM.out)
        have hml2 := HPL.out _ HI2.out
        have HBL := Lib.hid hblk
        clear hra hrc hb hbu hbz hz hb32 hblk
        go_wp2
        refine wp_region_held_drew (S := (fun w' => w'.cell? ⟨w.heap.size, 0, none⟩ = some (.slice (some ⟨gb, goff, none⟩) g.length vc) ∧ w'.cell? ⟨gb, goff + u, none⟩ = some (.slice (some ⟨rb, ro, none⟩) l.length rc) ∧ w'.cell? ⟨rb, ro + i, none⟩ = some (.int .i64 (z : Int)))) (by kernel_rfl) ?_ (fun hHeld => ?_)
        · first | exact ⟨‹_›, ‹_›, ‹_›⟩ | (simp [*, go_sem])
        have hbd : Below wr.heap.size wr wr.drew := ((Drawn.refl _).drew).below _
        generalize wr.drew = wd at hbd hHeld ⊢
        have hH2 := hHeld
        obtain ⟨d0, d1, d2⟩ := hH2
        refine wpAnyH_take (i := 0) (v := ?v1) (by simp only [List.getElem?_toArray, List.getElem?_cons_zero]; exact rfl) (by kernel_rfl) (by kernel_rfl) (by kernel_rfl) (by intro _ _ _ h; exact h) (Or.inl ⟨by rfl, ?y1⟩) hHeld ?_
        case y1 => (intro w hSw; (try dsimp only at hSw); go_simp; try (with_reducible rfl))
        try simp only [Act.put, List.setIfInBounds_toArray, List.set_cons_zero, List.set_cons_succ]
        refine wpAnyH_take (i := 1) (v := ?v2) (by simp only [List.getElem?_toArray, List.getElem?_cons_succ, List.getElem?_cons_zero]; exact rfl) (by kernel_rfl) (by kernel_rfl) (by kernel_rfl) (by intro _ _ _ h; exact h) (Or.inl ⟨by rfl, ?y2⟩) hHeld ?_
        case y2 => (intro w hSw; (try dsimp only at hSw); go_simp; try (with_reducible rfl))
        try simp only [Act.put, List.setIfInBounds_toArray, List.set_cons_zero, List.set_cons_succ]
        refine wpAnyH_take (i := 2) (v := ?v3) (by simp only [List.getElem?_toArray, List.getElem?_cons_succ, List.getElem?_cons_zero]; exact rfl) (by kernel_rfl) (by kernel_rfl) (by kernel_rfl) (by intro _ _ _ h; exact h) (Or.inl ⟨by rfl, ?y3⟩) hHeld ?_
        case y3 => (intro w hSw; (try dsimp only at hSw); go_simp; try (with_reducible rfl))
        try simp only [Act.put, List.setIfInBounds_toArray, List.set_cons_zero, List.set_cons_succ]
        refine wpAnyH_take (i := 3) (v := ?v4) (by simp only [List.getElem?_toArray, List.getElem?_cons_succ, List.getElem?_cons_zero]; exact rfl) (by kernel_rfl) (by kernel_rfl) (by kernel_rfl) (by intro _ _ _ h; exact h) (Or.inl ⟨by rfl, ?y4⟩) hHeld ?_
        case y4 => (intro w hSw; (try dsimp only at hSw); go_simp; try (with_reducible rfl))
        try simp only [Act.put, List.setIfInBounds_toArray, List.set_cons_zero, List.set_cons_succ]
        refine wpAnyH_take (i := 4) (v := ?v5) (by simp only [List.getElem?_toArray, List.getElem?_cons_succ, List.getElem?_cons_zero]; exact rfl) (by kernel_rfl) (by kernel_rfl) (by kernel_rfl) (by intro _ _ _ h; exact h) (Or.inl ⟨by rfl, ?y5⟩) hHeld ?_
        case y5 => (intro w hSw; (try dsimp only at hSw); go_simp; try (with_reducible rfl))
        try simp only [Act.put, List.setIfInBounds_toArray, List.set_cons_zero, List.set_cons_succ]
        refine wpAnyH_take (i := 5) (v := ?v6) (by simp only [List.getElem?_toArray, List.getElem?_cons_succ, List.getElem?_cons_zero]; exact rfl) (by kernel_rfl) (by kernel_rfl) (by kernel_rfl) (by intro _ _ _ h; exact h) (Or.inl ⟨by rfl, ?y6⟩) hHeld ?_
        case y6 => (intro w hSw; (try dsimp only at hSw); go_simp; try (with_reducible rfl))
        try simp only [Act.put, List.setIfInBounds_toArray, List.set_cons_zero, List.set_cons_succ]
        refine wpAnyH_take (i := 6) (v := ?v7) (by simp only [List.getElem?_toArray, List.getElem?_cons_succ, List.getElem?_cons_zero]; exact rfl) (by kernel_rfl) (by kernel_rfl) (by kernel_rfl) (by intro _ _ _ h; exact h) (Or.inl ⟨by rfl, ?y7⟩) hHeld ?_
        case y7 => (intro w hSw; (try dsimp only at hSw); go_simp; try (with_reducible rfl))
        try simp only [Act.put, List.setIfInBounds_toArray, List.set_cons_zero, List.set_cons_succ]
        refine wpAnyH_take (i := 7) (v := ?v8) (by simp only [List.getElem?_toArray, List.getElem?_cons_succ, List.getElem?_cons_zero]; exact rfl) (by kernel_rfl) (by kernel_rfl) (by kernel_rfl) (by intro _ _ _ h; exact h) (Or.inl ⟨by rfl, ?y8⟩) hHeld ?_
        case y8 => (intro w hSw; (try dsimp only at hSw); go_simp; try (with_reducible rfl))
        try simp only [Act.put, List.setIfInBounds_toArray, List.set_cons_zero, List.set_cons_succ]
        refine wpAnyH_take (i := 8) (v := ?v9) (by simp only [List.getElem?_toArray, List.getElem?_cons_succ, List.getElem?_cons_zero]; exact rfl) (by kernel_rfl) (by kernel_rfl) (by kernel_rfl) (by intro _ _ _ h; exact h) (Or.inl ⟨by rfl, ?y9⟩) hHeld ?_
        case y9 => (intro w hSw; (try dsimp only at hSw); go_simp; try (with_reducible rfl))
        try simp only [Act.put, List.setIfInBounds_toArray, List.set_cons_zero, List.set_cons_succ]
        refine wpAnyH_take (i := 9) (v := ?v10) (by simp only [List.getElem?_toArray, List.getElem?_cons_succ, List.getElem?_cons_zero]; exact rfl) (by kernel_rfl) (by kernel_rfl) (by kernel_rfl) (by intro _ _ _ h; exact h) (Or.inl ⟨by rfl, ?y10⟩) hHeld ?_
        case y10 => (intro w hSw; (try dsimp only at hSw); go_simp; try (with_reducible rfl))
        try simp only [Act.put, List.setIfInBounds_toArray, List.set_cons_zero, List.set_cons_succ]
        refine wpAnyH_take (i := 10) (v := ?v11) (by simp only [List.getElem?_toArray, List.getElem?_cons_succ, List.getElem?_cons_zero]; exact rfl) (by kernel_rfl) (by kernel_rfl) (by kernel_rfl) (by intro _ _ _ h; exact h) (Or.inl ⟨by rfl, ?y11⟩) hHeld ?_
        case y11 => (intro w hSw; (try dsimp only at hSw); go_simp; try (with_reducible rfl))
        try simp only [Act.put, List.setIfInBounds_toArray, List.set_cons_zero, List.set_cons_succ]
        refine wpAnyH_ready (rs := [11]) (by kernel_rfl) (by simp) ?_
        refine AllReadyH.cons (by simp only [List.getElem?_toArray, List.getElem?_cons_succ, List.getElem?_cons_zero]; exact rfl) (fun K hK => ?_) AllReadyH.nil
        go_simp
        refine (HBL.out wd (hq.trans (hbd.mono hq.size))).mono ?_
        rintro e w3 ⟨x1, rfl, hx1, hbn⟩
        have hb3 := hbd.trans (hbn.mono hbd.size)
        have d0 := (hbn.cell (cell_lt d0)).trans d0
        have d1 := (hbn.cell (cell_lt d1)).trans d1
        have d2 := (hbn.cell (cell_lt d2)).trans d2
        try dsimp only
        refine hK.out _ _ ?h13 (fun hHeld => ?_)
        case h13 => first | exact ⟨‹_›, ‹_›, ‹_›⟩ | (simp [*, go_sem])
        clear hK K
        try simp only [Act.put, List.setIfInBounds_toArray, List.set_cons_zero, List.set_cons_succ]
        refine wpAnyH_ready (rs := [12]) (by kernel_rfl) (by simp) ?_
        refine AllReadyH.cons (by simp only [List.getElem?_toArray, List.getElem?_cons_succ, List.getElem?_cons_zero]; exact rfl) (fun K hK => ?_) AllReadyH.nil
        go_simp
        have hs3 := hbd.size
        have hput := putM_any (b := b) (hO.below hb3 (Nat.le_refl _)) (hx1.weak fun b hb => ⟨by have := hb.1; omega, hb.2⟩) (by have := hb3.size; omega) (by omega)
        refine hput.mono ?_
        rintro e w4 ⟨ob2, oc2, rfl, hO2, hbm⟩
        have hb4 := hb3.trans (hbm.mono hb3.size)
        have d0 := (hbm.cell (cell_lt d0)).trans d0
        have d1 := (hbm.cell (cell_lt d1)).trans d1
        have d2 := (hbm.cell (cell_lt d2)).trans d2
        try dsimp only
        refine hK.out _ _ ?h15 (fun hHeld => ?_)
        case h15 => first | exact ⟨‹_›, ‹_›, ‹_›⟩ | (simp [*, go_sem])
        clear hK K
        try simp only [Act.put, List.setIfInBounds_toArray, List.set_cons_zero, List.set_cons_succ]
        refine wpAnyH_take (i := 13) (v := ?v16) (by simp only [List.getElem?_toArray, List.getElem?_cons_succ, List.getElem?_cons_zero]; exact rfl) (by kernel_rfl) (by kernel_rfl) (by kernel_rfl) (by intro _ _ _ h; exact h) (Or.inl ⟨by rfl, ?y16⟩) hHeld ?_
        case y16 => (intro w hSw; (try dsimp only at hSw); go_simp; try (with_reducible rfl))
        try simp only [Act.put, List.setIfInBounds_toArray, List.set_cons_zero, List.set_cons_succ]
        refine wpAnyH_done (by kernel_rfl) ?_ _
        have hq4 := hq.trans (hb4.mono hq.size)
        go_wp2
        go_roundw
        case rel => exact ⟨putM ms b, ob2, oc2, i + 1, by omega, hml2, by go_num, rfl, hO2, HI2, HE2, HS2, hq4, d0⟩
        case measure => simp [RowKit.intOf]; omega
end Go.Proofs.YtmcaccacdbcnmaaDoor
