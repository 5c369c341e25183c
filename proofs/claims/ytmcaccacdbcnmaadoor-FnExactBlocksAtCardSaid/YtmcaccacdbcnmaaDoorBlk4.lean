/- Blocks of both sides: blocksOf, BlocksAt. -/
import Derived.Test.YtmcaccacdbcnmaaDoorBlk3
import Derived.Test.YtmcaccacdbcnmaaDoorSrt3
import Derived.Test.YtmcaccacdbcnmaaDoorVtx
import Derived.Test.YtmcaccacdbcnmaaDoorHas
namespace Go.Proofs.YtmcaccacdbcnmaaDoor
open Go.RowKit
theorem blkL_one {g : List (List Int)} {ms ms' : List Nat} (h : BlkL g ms) (h' : BlkL g ms') : ms = ms' := by
  have h1 := h.1.srt
  have h2 := h'.1.srt
  rw [List.pairwise_map] at h1 h2
  exact strict_ext (R := fun x y => LtL (bitsI x) (bitsI y)) (fun x y h k => LtL.asym _ _ h k) h1 h2 fun x => (h.2 x).trans (h'.2 x).symm
open Classical in
noncomputable def blocksL (g : List (List Int)) : List Nat := if h : ∃ ms, BlkL g ms then Classical.choose h else []
theorem blocksL_is {g : List (List Int)} {ms : List Nat} (h : BlkL g ms) : blocksL g = ms := by
  have he : ∃ ms, BlkL g ms := ⟨ms, h⟩
  rw [blocksL, dif_pos he]
  exact blkL_one (Classical.choose_spec he) h
/-- Which of some sets have x. -/
def atK (ms : List Nat) (x : Int) (k : Nat) : List Int := (rangeI k).filter fun i => decide (x ∈ bitsI (ms.getD i.toNat 0))
theorem atK_succ (ms : List Nat) (x : Int) (k : Nat) : atK ms x (k + 1) = if decide (x ∈ bitsI (ms.getD k 0)) = true then atK ms x k ++ [(k : Int)] else atK ms x k := by
  unfold atK
  rw [rangeI_succ, List.filter_append]
  rw [List.filter_cons, List.filter_nil, Int.toNat_natCast]
  split <;> simp
theorem atK_len (ms : List Nat) (x : Int) (k : Nat) : (atK ms x k).length ≤ k := by
  unfold atK; have := List.length_filter_le (fun i : Int => decide (x ∈ bitsI (ms.getD i.toNat 0))) (rangeI k); rw [rangeI_len] at this; exact this
noncomputable def atF (g : List (List Int)) (x : Int) : List Int := if gokB g = true then atK (blocksL g) x (blocksL g).length else []
theorem blkL_ex {g : List (List Int)} (hg : GOk g) : ∃ ms, BlkL g ms := by
  have hsy : SymA (netsL g) := fun _ _ h => (net_sym hg h).2.2.2
  have hU : firstN g.length < 4294967296 := by have := firstN_lt hg.hi; omega
  have key : ∀ L : List Nat, (∀ B ∈ L, B ∈ allB (netsL g) (firstN g.length)) → ∃ ms, PutI (netsL g) (firstN g.length) ms ∧ ∀ B, B ∈ ms ↔ B ∈ L := by
    intro L
    induction L with
    | nil => intro _; exact ⟨[], ⟨by simp, fun B hB => by simp at hB⟩, fun B => Iff.rfl⟩
    | cons b L ih =>
      intro h
      obtain ⟨ms, h1, h2⟩ := ih fun B hB => h B (by simp [hB])
      have hb := h b (by simp)
      refine ⟨putM ms b, h1.put hU hsy hb, fun B => ?_⟩
      rw [mem_putM (blk_lt (n := 32) hU ((all_facts hU hsy).1 b hb).1) (h1.lt hU hsy), h2 B, List.mem_cons]
      exact Or.comm
  obtain ⟨ms, h1, h2⟩ := key _ fun B hB => hB
  exact ⟨ms, h1, h2⟩
theorem atF_out {g : List (List Int)} {x : Int} (h : (gokB g && inB x 0 ((g.length : Int) - 1)) = false) (hex : gokB g = true → ∃ ms, BlkL g ms) : atF g x = [] := by
  unfold atF
  split
  case isFalse => rfl
  case isTrue hg =>
    obtain ⟨ms, hms⟩ := hex hg
    rw [hg, Bool.true_and] at h
    have hgk := gokB_iff.1 hg
    rw [blocksL_is hms]
    unfold atK
    rw [List.filter_eq_nil_iff]
    intro i hi
    rw [decide_eq_true_eq]
    intro hx
    have hm := mem_rangeI.1 hi
    have hmem : ms.getD i.toNat 0 ∈ ms := by
      have : i.toNat < ms.length := by omega
      rw [List.getD_eq_getElem?_getD, List.getElem?_eq_getElem this]
      exact List.getElem_mem this
    have hU : firstN g.length < 4294967296 := by have := firstN_lt hgk.hi; omega
    have hblk := ((all_facts hU (fun _ _ h => (net_sym hgk h).2.2.2)).1 _ (hms.1.sub _ hmem)).1
    have hx2 := (mem_bitsI (blk_lt (n := 32) hU hblk)).1 hx
    have hx3 := hblk.sub _ hx2.2
    rw [testBit_firstN, decide_eq_true_eq] at hx3
    unfold inB at h
    simp only [Bool.and_eq_false_iff, decide_eq_false_iff_not] at h
    omega
theorem SlI.liveB {S : Nat → Prop} {w : World} {k : IntKind} {v : Value} {xs : List Int} (h : SlI S w k v xs) : SlI (fun b => S b ∧ b < w.heap.size) w k v xs := by
  obtain ⟨a, b, off, cap, rfl, hl, ha, hc⟩ := h
  exact ⟨a, b, off, cap, rfl, hl, fun h0 => ⟨(ha h0).1, (ha h0).2, cell_lt (hc 0 h0)⟩, hc⟩
theorem blkF_ne {a : List Nat} (hsy : SymA a) : ∀ n s, popN s < n → s < 4294967296 → ConnS a s → blkF a n s ≠ []
  | 0, s, hn, _, _ => by omega
  | n + 1, s, hn, hs, hc => by
    by_cases hz : cutsN a s = 0
    · rw [blkF, if_pos hz]; simp
    · rw [blkF, if_neg hz]
      have hvb := ctz_bit hz (cutsN_lt hs)
      generalize Lib.ctz 32 (cutsN a s) = v at *
      obtain ⟨hv, hcut⟩ := (cutsN_bit hs).1 hvb
      obtain ⟨x0, y0, hx0, hy0, hn0⟩ := (cutB_iff hs hsy hc hv).1 hcut
      have hw := wo_lt (v := v) hs
      obtain ⟨f1, f2, f3⟩ := parts_facts hw (hsy.on (wo s v))
      intro e
      rw [List.flatMap_eq_nil_iff] at e
      exact blkF_ne hsy n _ (by have := part_less hs hsy hv hx0 hx0 hy0 hn0; omega) (Nat.or_lt_two_pow (n := 32) (reachN_lt _ _ _) (bit_lt (bit_lt_of (n := 32) hs hv))) (part_conn hs hsy hc hv hx0) (e _ (f2 x0 hx0))
theorem allB_pos {a : List Nat} {U r : Nat} (hU : U < 4294967296) (hsy : SymA a) (hr : U.testBit r = true) : 0 < (allB a U).length := by
  obtain ⟨f1, f2, f3⟩ := parts_facts hU (hsy.on U)
  obtain ⟨q1, q2, q3, q4⟩ := parts_qb hU hsy hr
  have h := blkF_ne hsy 33 (reachN a U r) (by have := popN_32 (reachN a U r); omega) (reachN_lt _ _ _) q3
  apply Nat.pos_of_ne_zero
  intro e
  have e2 := List.eq_nil_of_length_eq_zero e
  unfold allB at e2
  rw [List.flatMap_eq_nil_iff] at e2
  exact h (e2 _ (f2 r hr))
theorem blk_ex {g : List (List Int)} (hg : GOk g) {ms : List Nat} (hp : ms.Perm (allB (netsL g) (firstN g.length))) (hs : ms.Pairwise fun x y => cmpL (bitsI x) (bitsI y) < 0) : BlkL g ms :=
  ⟨⟨by rw [List.pairwise_map]; exact hs, fun B hB => hp.mem_iff.1 hB⟩, fun B => hp.mem_iff⟩
set_option maxRecDepth 100000 in
set_option maxHeartbeats 4000000 in
theorem specBlocksAt_any {S : Nat → Prop} {v : Value} {g : List (List Int)} {x : Int} {w : World} (hv : SlR S w v g) :
    Calls Tryd.prog 10 #[.agg #[v], .int .i64 x] w fun e w' => ∃ u, e = .returned u ∧ SlI (fun b => w.heap.size ≤ b) w' .i64 u (atF g x) ∧ Below w.heap.size w w' := by
  have hq0 : Below w.heap.size w ((w.alloc (.cells #[v] 28)).alloc (.cells #[] 2)) := ((Below.refl _ _).alloc (Nat.le_refl _) _).alloc (by simp) _
  have hbo := specBlocksOf_any (hv.below hq0 (Nat.le_refl _))
  obtain ⟨va, vc, rfl⟩ := hv.slice
  have hlit : Own ((w.alloc (.cells #[.slice va g.length vc] 28)).alloc (.cells #[] 2)) (w.heap.size + 1) 2 1 (.slice (some ⟨w.heap.size + 1, 0, none⟩) 0 0) 0 [] := by
    have := World.ownsRow_lit (base := w.heap.size + 1) (e := 2) (size := 1) (w.alloc (.cells #[.slice va g.length vc] 28)) #[] 0 (by simp) (by unfold maxLen; omega) rfl
    simpa [Own] using this
  have hs0 : w.heap.size + 1 < ((w.alloc (.cells #[.slice va g.length vc] 28)).alloc (.cells #[] 2)).heap.size := by simp
  go_enter Tryd.func10, Tryd.ntmps10
  go_wp2_with fail
  refine hbo.mono ?_
  rintro e w1 ⟨ob, oc, ms, rfl, hO, hml, hok, hno, hb1⟩
  have hq1 := hq0.trans (hb1.mono hq0.size)
  have hown1 := hlit.below hb1 (Nat.le_refl _)
  have hR := hO.rowsB (by rw [List.length_map]; omega)
  have hB1 : w.heap.size + 1 ≤ w1.heap.size := by have := hb1.size; omega
  have hR1 : SlR (Off1 w1 (.slice (some ⟨w.heap.size + 1, 0, none⟩) 0 0)) w1 (.slice (some ⟨ob, 0, none⟩) ms.length oc) (ms.map bitsI) := hR.weak fun b hb => ⟨hb.2, fun e => by have e2 : w.heap.size + 1 = b := Option.some.inj e; have := hb.1; omega⟩
  have HA : RowKit.Hid (atK ms x ms.length = atF g x) := Lib.hid (by
    unfold atF
    by_cases hg : gokB g = true
    · rw [if_pos hg, blocksL_is (hok hg)]
    · rw [if_neg hg, hno (by simpa using hg)]; rfl)
  clear hbo hlit hs0 hO hR hok hno hq0 hb1
  go_wp2
  go_loopw [5, 7] (fun o i wr => ∃ k : Nat, k ≤ ms.length ∧ i = .int .i64 (k : Int) ∧ Own wr (w.heap.size + 1) 2 1 o (atK ms x k).length ((atK ms x k).map (.int .i64)) ∧ SlR (Off1 wr o) wr (.slice (some ⟨ob, 0, none⟩) ms.length oc) (ms.map bitsI) ∧ Below w.heap.size w wr ∧ w.heap.size + 1 ≤ wr.heap.size) (fun _ i _ => ms.length - (RowKit.intOf i).toNat)
  case atStart => exact ⟨0, Nat.zero_le _, rfl, by simpa [atK, rangeI] using hown1, hR1, hq1, hB1⟩
  case round =>
    clear hown1 hR1 hq1 hB1
    obtain ⟨k, hk, rfl, hown, hR, hq, hB2⟩ := hrel
    have hwl := atK_len ms x k
    have HWS := Lib.hid (atK_succ ms x k)
    obtain ⟨oa, oc2, rfl⟩ := hown.isSlice
    by_cases hlt : k < ms.length
    case neg =>
      have hke : k = ms.length := by omega
      subst hke
      go_wp2
      go_ret
      exact ⟨_, rfl, by rw [← HA.out]; exact (hown.ints (by omega)).weak fun b hb => by have := (hown.lt b hb).1; omega, hq⟩
    have hR0 := hR
    obtain ⟨a2, b2, off2, cap2, f2, hve, hgl, hga, hgc⟩ := hR
    simp only [List.length_map, Value.slice.injEq, true_and] at hve
    obtain ⟨hve1, rfl⟩ := hve
    obtain ⟨hae, -⟩ := hga (by rw [List.length_map]; omega)
    rw [hae] at hve1
    simp only [Option.some.injEq, Addr.mk.injEq, and_true] at hve1
    obtain ⟨rfl, rfl⟩ := hve1
    obtain ⟨c0, hrow⟩ := hgc k (by rw [List.length_map]; exact hlt)
    rw [List.getElem_map] at hrow
    have hgd : ms.getD k 0 = ms[k] := by rw [List.getD_eq_getElem?_getD, List.getElem?_eq_getElem hlt, Option.getD_some]
    have hha := l1Has_any _ _ x wr hrow
    rw [← hgd] at hha
    obtain ⟨ra, rc, hre⟩ := hrow.slice
    rw [hre] at c0 hha
    rw [← hgd] at c0 hha
    rw [Nat.zero_add] at c0
    clear hgc hga hgl hrow hre hae hgd
    generalize hmk : ms.getD k 0 = m at *
    clear hmk
    cases hc : decide (x ∈ bitsI m) with
    | true =>
      have hs := HWS.out
      rw [hc, if_pos rfl] at hs
      have HS := Lib.hid hs
      rw [hc] at hha
      clear hs HWS hc
      go_wp2_with (first | (go_at_call 36; refine hha.mono ?_; rintro e w' ⟨rfl, rfl⟩) | (at_builtin; refine wpList_append1 elI64 rfl _ _ rfl hown rfl rfl rfl (by omega) hB2 ?_; intro v' w2 hown2 hkept hmv; have hR2 := hR0.offApp hkept hmv (by simp); have hq2 := hkept.below hq (by omega) (fun b hb => by have := hown.ge b hb; omega); have hB3 := Nat.le_trans hB2 hkept.2.2.2.1) | fail)
      go_roundw
      case rel => exact ⟨k + 1, by omega, by go_num, by rw [HS.out]; simpa using hown2, hR2, hq2, hB3⟩
      case measure => simp [RowKit.intOf]; omega
    | false =>
      have hs := HWS.out
      rw [hc, if_neg (by simp)] at hs
      have HS := Lib.hid hs
      rw [hc] at hha
      clear hs HWS hc
      go_wp2_with (first | (go_at_call 36; refine hha.mono ?_; rintro e w' ⟨rfl, rfl⟩) | fail)
      go_roundw
      case rel => exact ⟨k + 1, by omega, by go_num, by rw [HS.out]; exact hown, hR0, hq, hB2⟩
      case measure => simp [RowKit.intOf]; omega
set_option maxRecDepth 100000 in
set_option maxHeartbeats 4000000 in
theorem blocksOf_any {S : Nat → Prop} {nv : Value} {g : List (List Int)} {w : World} (ht : Tab w) (hg : GOk g) (hv : SlI S w .u32 nv (natsI (netsL g))) :
    Calls Tryd.prog 39 #[nv] w fun e w' => ∃ u, e = .returned u ∧ Own w' w.heap.size 62 1 u (blocksL g).length ((natsI (blocksL g)).map (.int .u32)) ∧ BlkL g (blocksL g) ∧ Below w.heap.size w w' := by
  have hnl := netsL_len g
  have h16 := hg.hi
  obtain ⟨va, vc, hve⟩ : ∃ va vc, nv = .slice va g.length vc := by obtain ⟨va, vc, h⟩ := hv.slice; rw [natsI_len, hnl] at h; exact ⟨va, vc, h⟩
  subst hve
  have hsy : SymA (netsL g) := fun _ _ h => (net_sym hg h).2.2.2
  have hal := netsL_lt hg
  have hU16 : firstN g.length < 65536 := firstN_lt h16
  have hU : firstN g.length < 4294967296 := by omega
  have hU2 : firstN g.length < 2 ^ (netsL g).length := by rw [hnl]; exact firstN_two _
  have hhv := hv.liveB
  have h0 : 0 < w.heap.size := cell_lt (ht 0 (by omega))
  have hq0 : Below w.heap.size w (w.alloc (.cells #[] 62)) := (Below.refl _ _).alloc (Nat.le_refl _) _
  have hpo := partsOf_any (ht.below hq0 (Nat.le_refl _)) (hv.below hq0 (Nat.le_refl _)) (by rw [hnl]; exact h16) hal hU2
  have hadd := addBlocks_any (a := netsL g) (nv := .slice va g.length vc) (B := w.heap.size) (S := fun b => S b ∧ b < w.heap.size) (by rw [hnl]; exact h16) hal hsy (fun b hb => hb.2)
  have hs0 : Own (w.alloc (.cells #[] 62)) w.heap.size 62 1 (.slice (some ⟨w.heap.size, 0, none⟩) 0 0) 0 ((natsI []).map (.int .u32)) := by
    have := World.ownsRow_lit (base := w.heap.size) (e := 62) (size := 1) w #[] 0 (Nat.le_refl _) (by unfold maxLen; omega) rfl
    simpa [Own, natsI] using this
  obtain ⟨f1, f2, f3⟩ := parts_facts hU (hsy.on (firstN g.length))
  have HP := Lib.hid (fun p (hp : p ∈ partsN (netsL g) (firstN g.length)) => show popN p < 33 ∧ p ≠ 0 ∧ p < 2 ^ (netsL g).length ∧ ConnS (netsL g) p from by
    obtain ⟨r, hr, rfl⟩ := f1 p hp
    obtain ⟨q1, q2, q3, q4⟩ := parts_qb hU hsy hr
    exact ⟨by have := popN_32 (reachN (netsL g) (firstN g.length) r); omega, q1, lt_bits fun i hi => bit_lt_of hU2 (q2 i hi), q3⟩)
  have HPOS := Lib.hid (allB_pos (a := netsL g) (U := firstN g.length) (r := 0) hU hsy (by rw [testBit_firstN, decide_eq_true_eq]; have := hg.lo; omega))
  have HAL := Lib.hid (allB_len (a := netsL g) (U := firstN g.length) hU16 hsy)
  have HAE := Lib.hid (show allB (netsL g) (firstN g.length) = (partsN (netsL g) (firstN g.length)).flatMap fun p => blkF (netsL g) 33 p from rfl)
  have HFA := Lib.hid (all_facts (a := netsL g) hU hsy)
  have HLT := Lib.hid (fun (B : Nat) (hB : B ∈ allB (netsL g) (firstN g.length)) => show B < 65536 from blk_lt (n := 16) hU16 ((all_facts (a := netsL g) hU hsy).1 B hB).1)
  have HEX := Lib.hid (fun (ms : List Nat) (hp : ms.Perm (allB (netsL g) (firstN g.length))) (hs : ms.Pairwise fun x y => cmpL (bitsI x) (bitsI y) < 0) => blk_ex hg hp hs)
  have hpl := partsN_len (netsL g) (firstN g.length)
  have HADD := Lib.hid hadd
  have HHV := Lib.hid hhv
  have HT := Lib.hid ht
  have hall := fun (W : World) => allOf_any va g.length vc W h16
  have hBs : Below w.heap.size (w.alloc (.cells #[] 62)) (w.alloc (.cells #[] 62)) := Below.refl _ _
  have HSZ : RowKit.Hid ((w.alloc (.cells #[] 62)).heap.size = w.heap.size + 1) := Lib.hid (by simp)
  clear hadd hhv f1 f2 f3 hU hU16 hU2 hsy hal hg
  generalize hP : partsN (netsL g) (firstN g.length) = P at *
  clear hP
  go_enter Tryd.func39, Tryd.ntmps39
  go_wp2_with (go_at_call 75; refine (hall _).mono ?_; rintro e w' ⟨rfl, rfl⟩)
  refine hpo.mono ?_
  rintro e w2 ⟨pv, rfl, hpv, hb2⟩
  have ho2 := hs0.below hb2 (Nat.le_refl _)
  obtain ⟨pa, pc, rfl⟩ := hpv.isSlice
  have hqb := hq0.trans (hb2.mono hq0.size)
  have HL0 : RowKit.Hid (([] : List Nat) = (P.take 0).flatMap fun p => blkF (netsL g) 33 p) := Lib.hid (by simp)
  have hsz2 := hb2.size
  rw [HSZ.out] at hsz2 hpv
  clear hall hpo hs0 hq0
  go_wp2
  go_loopw [3, 12] (fun ov iv wr => ∃ (k : Nat) (L : List Nat), k ≤ P.length ∧ iv = .int .i64 (k : Int) ∧ RowKit.Hid (L = (P.take k).flatMap fun p => blkF (netsL g) 33 p) ∧ Own wr w.heap.size 62 1 ov L.length ((natsI L).map (.int .u32)) ∧ StepD w2 wr (.slice (some ⟨w.heap.size, 0, none⟩) 0 0) ov) (fun _ iv _ => P.length - (RowKit.intOf iv).toNat)
  case atStart => exact ⟨0, [], Nat.zero_le _, rfl, HL0, ho2, StepD.refl _ _⟩
  case round =>
    clear ho2 HL0
    obtain ⟨k, L, hk, rfl, HLK, hov, hst⟩ := hrel
    have hbB : Below w.heap.size w wr := hqb.trans (hst.toBelow (by omega) (fun b hb => by have e : w.heap.size = b := Option.some.inj hb; omega))
    have htr := HT.out.below hbB (Nat.le_refl _)
    by_cases hlt : k < P.length
    case neg =>
      have hke : k = P.length := by omega
      have hLA : L = allB (netsL g) (firstN g.length) := by rw [HLK.out, hke, List.take_length, HAE.out]
      obtain ⟨ob, oc, rfl⟩ := own_some hov (by rw [hLA]; exact HPOS.out)
      have hob := (hov.lt ob rfl).1
      have hso := sortLists wr w.heap.size ob oc L htr (by omega) (fun m hm => HLT.out m (by rw [← hLA]; exact hm)) (by rw [hLA]; exact HFA.out.2.2.1) (by have := HAL.out; rw [← hLA] at this; omega) hov
      have HLA := Lib.hid hLA
      have hszr := hbB.size
      clear hke hLA
      go_wp2_with (go_at_call 75; fail)
      refine hso.mono ?_
      rintro e w4 ⟨rfl, ms', hp, hs, ho4, hk4⟩
      have hbl := HEX.out ms' (by rw [← HLA.out]; exact hp) hs
      have HIS := Lib.hid (blocksL_is hbl)
      have hlm := hp.length_eq
      have HLM := Lib.hid hlm
      clear hlm
      go_wp2
      go_ret
      exact ⟨_, rfl, by rw [HIS.out, HLM.out]; exact ho4, by rw [HIS.out]; exact hbl, hk4.below hbB hszr (fun c hc => by simp at hc; omega)⟩
    have hPk := HP.out P[k] (List.getElem_mem hlt)
    obtain ⟨pg, pc2, hpe⟩ := own_some hpv (by omega)
    simp only [Value.slice.injEq, true_and] at hpe
    obtain ⟨rfl, rfl⟩ := hpe
    have hpc := natsI_cell rfl hpv k hlt
    have hpb := hpv.lt pg rfl
    have hpc2 : wr.cell? ⟨pg, k, none⟩ = some (.int .u32 (P[k] : Int)) := (World.cell?_of_block (a := ⟨pg, k, none⟩) (hst.1.2.2.2.2 pg hpb.2 (fun e => by have e2 : pg = w.heap.size := Option.some.inj e; omega))).trans hpc
    have HT1 := Lib.hid (show P.take (k + 1) = P.take k ++ [P[k]] from List.take_succ_eq_append_getElem hlt)
    have HT2 := Lib.hid (show P = P.take k ++ P[k] :: P.drop (k + 1) by rw [← List.drop_eq_getElem_cons hlt, List.take_append_drop])
    generalize P[k] = p at *
    have hsz := hst.1.2.2.2.1
    have hih := HADD.out 33 p L _ wr htr h0 (by omega) (HHV.out.below hbB (Nat.le_refl _)) hPk.1 hPk.2.1 hPk.2.2.1 hPk.2.2.2 (by
      have h := HAL.out
      rw [HLK.out]
      rw [HAE.out, HT2.out] at h
      simp only [List.flatMap_append, List.flatMap_cons, List.length_append] at h ⊢
      omega) hov
    have HLE := Lib.hid (show L ++ blkF (netsL g) 33 p = (P.take (k + 1)).flatMap fun p => blkF (netsL g) 33 p by
      rw [HLK.out, HT1.out, List.flatMap_append]
      simp)
    obtain ⟨L2, hL2⟩ : ∃ L2, L2 = L ++ blkF (netsL g) 33 p := ⟨_, rfl⟩
    rw [← hL2] at hih HLE
    obtain ⟨ra, rc, rfl⟩ := hov.isSlice
    clear hL2 hPk hpc htr
    go_wp2_with (go_at_call 76; with_reducible refine hih.mono ?_; rintro e w3 ⟨u3, rfl, ho3, hst3⟩; obtain ⟨ra3, rc3, rfl⟩ := ho3.isSlice; have hst4 := hst.trans hst3)
    go_roundw
    case rel => exact ⟨k + 1, L2, by omega, by go_num, HLE, ho3, hst4⟩
    case measure => simp [RowKit.intOf]; omega
set_option maxRecDepth 100000 in
set_option maxHeartbeats 4000000 in
theorem implBlocksAt_any {S : Nat → Prop} {v : Value} {g : List (List Int)} {x : Int} {w : World} (ht : Tab w) (hv : SlR S w v g) :
    Calls Tryd.prog 12 #[.agg #[v], .int .i64 x] w fun e w' => ∃ u, e = .returned u ∧ Own w' w.heap.size 2 1 u (atF g x).length ((atF g x).map (.int .i64)) ∧ Below w.heap.size w w' := by
  have hq0 : Below w.heap.size w (w.alloc (.cells #[v] 28)) := (Below.refl _ _).alloc (Nat.le_refl _) _
  have hvS := hv
  obtain ⟨va, vc, rfl⟩ := hvS.slice
  have c0 : (w.alloc (.cells #[.slice va g.length vc] 28)).cell? ⟨w.heap.size, 0, none⟩ = some (.slice va g.length vc) := by simp [go_sem]
  have hiv := isVtx_any (x := x) (hv.below hq0 (Nat.le_refl _))
  cases hok : (gokB g && inB x 0 ((g.length : Int) - 1)) with
  | false =>
    rw [hok] at hiv
    have HOUT := Lib.hid (fun (h : gokB g = true → ∃ ms, BlkL g ms) => atF_out hok h)
    have HEX := Lib.hid (show gokB g = true → ∃ ms, BlkL g ms from fun h => blkL_ex (gokB_iff.1 h))
    clear hok
    go_enter Tryd.func12, Tryd.ntmps12
    go_wp2_with fail
    refine hiv.mono ?_
    rintro e w1 ⟨rfl, hb1⟩
    go_wp2
    go_ret
    exact ⟨.slice none 0 0, rfl, by rw [HOUT.out HEX.out]; exact ⟨rfl, .inl ⟨rfl, rfl⟩⟩, hq0.trans (hb1.mono hq0.size)⟩
  | true =>
    rw [hok] at hiv
    have hgg : gokB g = true ∧ inB x 0 ((g.length : Int) - 1) = true := by simpa using hok
    have hg := gokB_iff.1 hgg.1
    have h16 := hg.hi
    have hx := hgg.2
    unfold inB at hx
    simp only [Bool.and_eq_true, decide_eq_true_eq] at hx
    have HF := Lib.hid (show atF g x = atK (blocksL g) x (blocksL g).length by unfold atF; rw [if_pos hgg.1])
    obtain ⟨n, rfl⟩ := Int.eq_ofNat_of_zero_le hx.1
    have hn16 : n < 16 := by omega
    have hno := fun (W : World) (hb : Below w.heap.size w W) => netsOf_any _ g W (hv.below hb (Nat.le_refl _)) hg
    have hbo := fun (W : World) (hb : Below w.heap.size w W) (S' : Nat → Prop) (u : Value) (hu : SlI S' W .u32 u (natsI (netsL g))) => blocksOf_any (ht.below hb (Nat.le_refl _)) hg hu
    have HB := Lib.hid (fun (m : Nat) (hm : m ∈ blocksL g) (h : BlkL g (blocksL g)) => show m < 4294967296 from h.1.lt (by have := firstN_lt h16; omega) (fun _ _ h => (net_sym hg h).2.2.2) m hm)
    have HLEN := Lib.hid (fun (h : BlkL g (blocksL g)) => h.1.len (firstN_lt h16) (fun _ _ h => (net_sym hg h).2.2.2))
    clear hok hgg hg hx
    generalize blocksL g = ms at *
    go_enter Tryd.func12, Tryd.ntmps12
    go_wp2_with fail
    refine hiv.mono ?_
    rintro e w1 ⟨rfl, hb1⟩
    have hq1 := hq0.trans (hb1.mono hq0.size)
    have c1 := (hb1.cell (cell_lt c0)).trans c0
    have hl1 : Below w1.heap.size w1 (w1.alloc (.cells #[] 2)) := (Below.refl _ _).alloc (Nat.le_refl _) _
    have c2 := (hl1.cell (cell_lt c1)).trans c1
    have hq2 := hq1.trans (hl1.mono hq1.size)
    have hlit : Own (w1.alloc (.cells #[] 2)) (w1.heap.size) 2 1 (.slice (some ⟨w1.heap.size, 0, none⟩) 0 0) 0 [] := by
      have := World.ownsRow_lit (base := w1.heap.size) (e := 2) (size := 1) w1 #[] 0 (Nat.le_refl _) (by unfold maxLen; omega) rfl
      simpa [Own] using this
    have hn1 := hno _ hq2
    have hz : w1.heap.size < (w1.alloc (.cells #[] 2)).heap.size := by simp
    clear hiv c0 c1 hno
    go_wp2_with fail
    refine hn1.mono ?_
    rintro e w3 ⟨nv, rfl, hnv, hb3⟩
    have hq3 := hq2.trans (hb3.mono hq2.size)
    have hlit3 := hlit.below hb3 (Nat.le_refl _)
    have hz3 := hb3.size
    have hb0 := hbo w3 hq3 _ _ (Own.ints (xs := natsI (netsL g)) hnv (by omega))
    obtain ⟨nva, nvc, rfl⟩ := hnv.isSlice
    clear hn1 hbo hlit hb3
    go_wp2_with fail
    refine hb0.mono ?_
    rintro e w4 ⟨bv, rfl, hbv, hbl, hb4⟩
    have hq4 := hq3.trans (hb4.mono hq3.size)
    have hlit4 := hlit3.below hb4 (Nat.le_refl _)
    have hml := HLEN.out hbl
    have HBL := Lib.hid (fun (m : Nat) (hm : m ∈ ms) => HB.out m hm hbl)
    have hbs : SlI (Off1 w4 (.slice (some ⟨w1.heap.size, 0, none⟩) 0 0)) w4 .u32 bv (natsI ms) := (hbv.ints (xs := natsI ms) (by omega)).weak fun b hb => ⟨(hbv.lt b hb).2, fun e => by have e2 : w1.heap.size = b := Option.some.inj e; have := (hbv.lt b hb).1; omega⟩
    obtain ⟨bva, bvc, rfl⟩ := hbv.isSlice
    have hs1 := hq1.size
    have hz4 := hb4.size
    have hB4 : w1.heap.size ≤ w4.heap.size := by omega
    clear hbv hbl hb0 hb4 HLEN HB hq3 hlit3 hq2 hz hz3 hz4
    go_wp2
    go_loopw [5, 17] (fun o i wr => ∃ k : Nat, k ≤ ms.length ∧ i = .int .i64 (k : Int) ∧ Own wr w1.heap.size 2 1 o (atK ms (n : Int) k).length ((atK ms (n : Int) k).map (.int .i64)) ∧ SlI (Off1 wr o) wr .u32 (.slice bva ms.length bvc) (natsI ms) ∧ Below w.heap.size w wr ∧ w1.heap.size ≤ wr.heap.size) (fun _ i _ => ms.length - (RowKit.intOf i).toNat)
    case atStart => exact ⟨0, Nat.zero_le _, rfl, by simpa [atK, rangeI] using hlit4, hbs, hq4, hB4⟩
    case round =>
      clear hlit4 hbs hq4 hB4
      obtain ⟨k, hk, rfl, hown, hR, hq, hB2⟩ := hrel
      have hwl := atK_len ms (n : Int) k
      have HWS := Lib.hid (atK_succ ms (n : Int) k)
      obtain ⟨oa, oc2, rfl⟩ := hown.isSlice
      by_cases hlt : k < ms.length
      case neg =>
        have hke : k = ms.length := by omega
        subst hke
        go_wp2
        go_ret
        exact ⟨_, rfl, by rw [HF.out]; exact hown.weak (by omega), hq⟩
      have hR0 := hR
      obtain ⟨b2, off2, cap2, hve, hgc⟩ := hR.at_
      have hve2 := hve (by rw [natsI_len]; omega)
      simp only [natsI_len, Value.slice.injEq, true_and] at hve2
      obtain ⟨rfl, rfl⟩ := hve2
      have c0 := hgc k (by rw [natsI_len]; exact hlt)
      rw [natsI_get] at c0
      have hgd : ms.getD k 0 = ms[k] := by rw [List.getD_eq_getElem?_getD, List.getElem?_eq_getElem hlt, Option.getD_some]
      have hm := HBL.out ms[k] (List.getElem_mem hlt)
      rw [← hgd] at c0 hm
      have hdc : decide ((n : Int) ∈ bitsI (ms.getD k 0)) = (ms.getD k 0).testBit n := by
        rw [Bool.eq_iff_iff, decide_eq_true_eq, mem_bitsI hm, Int.toNat_natCast]
        exact ⟨fun h => h.2, fun h => ⟨by omega, h⟩⟩
      have hws := HWS.out
      rw [hdc] at hws
      have hha := hasV_any (ms.getD k 0) n wr hm (by omega)
      clear hgc hve hR HWS hdc hgd
      generalize ms.getD k 0 = m at *
      cases hc : m.testBit n with
      | true =>
        rw [hc, if_pos rfl] at hws
        have HS := Lib.hid hws
        rw [hc] at hha
        clear hws hc
        go_wp2_with (first | (go_at_call 41; refine hha.mono ?_; rintro e w' ⟨rfl, rfl⟩) | (at_builtin; refine wpList_append1 elI64 rfl _ _ rfl hown rfl rfl rfl (by omega) hB2 ?_; intro v' w2 hown2 hkept hmv; have hR2 := hR0.offApp hkept hmv (by simp); have hq2 := hkept.below hq (by omega) (fun b hb => by have := hown.ge b hb; omega); have hB3 := Nat.le_trans hB2 hkept.2.2.2.1) | fail)
        go_roundw
        case rel => exact ⟨k + 1, by omega, by go_num, by rw [HS.out]; simpa using hown2, hR2, hq2, hB3⟩
        case measure => simp [RowKit.intOf]; omega
      | false =>
        rw [hc, if_neg (by simp)] at hws
        have HS := Lib.hid hws
        rw [hc] at hha
        clear hws hc
        go_wp2_with (first | (go_at_call 41; refine hha.mono ?_; rintro e w' ⟨rfl, rfl⟩) | fail)
        go_roundw
        case rel => exact ⟨k + 1, by omega, by go_num, by rw [HS.out]; exact hown, hR0, hq, hB2⟩
        case measure => simp [RowKit.intOf]; omega
theorem atF_len (g : List (List Int)) (x : Int) : (atF g x).length ≤ 1048576 := by
  unfold atF
  split
  case isTrue h =>
    have hg := gokB_iff.1 h
    obtain ⟨ms, hms⟩ := blkL_ex hg
    have h1 := hms.1.len (firstN_lt hg.hi) (fun _ _ h => (net_sym hg h).2.2.2)
    rw [blocksL_is hms]
    have := atK_len ms x ms.length
    omega
  case isFalse => simp
end Go.Proofs.YtmcaccacdbcnmaaDoor
