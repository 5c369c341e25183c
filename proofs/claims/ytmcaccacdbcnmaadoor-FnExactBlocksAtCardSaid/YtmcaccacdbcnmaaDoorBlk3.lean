/- Blocks of the program: addBlocks. -/
import Derived.Test.YtmcaccacdbcnmaaDoorBlk2
namespace Go.Proofs.YtmcaccacdbcnmaaDoor
open Go.RowKit
theorem StepD.trans {a b c : World} {u v x : Value} (h : StepD a b u v) (k : StepD b c v x) : StepD a c u x := by
  refine ⟨⟨k.1.1.trans h.1.1, k.1.2.1.trans h.1.2.1, k.1.2.2.1.trans h.1.2.2.1, Nat.le_trans h.1.2.2.2.1 k.1.2.2.2.1, fun i hi hne => ?_⟩, fun i hi => ?_⟩
  · refine (k.1.2.2.2.2 i (Nat.lt_of_lt_of_le hi h.1.2.2.2.1) (fun e => ?_)).trans (h.1.2.2.2.2 i hi hne)
    rcases h.2 i e.symm with h2 | h2
    · exact hne h2.symm
    · omega
  · rcases k.2 i hi with h2 | h2
    · exact h.2 i h2
    · exact .inr (Nat.le_trans h.1.2.2.2.1 h2)
theorem StepD.refl (w : World) (u : Value) : StepD w w u u := ⟨KeptBut.refl _ _, fun b hb => .inl hb⟩
theorem StepD.ofBelow {w w' : World} (u : Value) (h : Below w.heap.size w w') : StepD w w' u u := ⟨⟨h.os, h.tape, h.output, h.size, fun k hk _ => h.block k hk⟩, fun b hb => .inl hb⟩
theorem StepD.toBelow {w w' : World} {B : Nat} {u u' : Value} (h : StepD w w' u u') (hB : B ≤ w.heap.size) (hu : ∀ b, u.ownBlock = some b → B ≤ b) : Below B w w' := h.1.below (Below.refl _ _) hB hu
theorem elVsB : Elem Tryd.prog 57 62 1 4 (.int .u32 0) := ⟨Tryd.underlying57, by kernel_rfl, rfl, by omega, by omega⟩
theorem natsI_app (l m : List Nat) : natsI (l ++ m) = natsI l ++ natsI m := by simp [natsI]
theorem natsI_cell {w : World} {B b c n : Nat} {E : TypeId} {l : List Nat} {v : Value} (hv : v = .slice (some ⟨b, 0, none⟩) n c) (h : Own w B E 1 v n ((natsI l).map (.int .u32))) (k : Nat) (hk : k < l.length) : w.cell? ⟨b, k, none⟩ = some (.int .u32 (l[k] : Int)) := by
  subst hv
  have := (cellsP h).1 k (by simpa [natsI] using hk)
  rw [this]; simp [natsI]
set_option maxRecDepth 100000 in
set_option maxHeartbeats 8000000 in
theorem addBlocks_any {S : Nat → Prop} {nv : Value} {a : List Nat} {B : Nat} (h16 : a.length ≤ 16) (hal : ∀ m ∈ a, m < 4294967296) (hsy : SymA a) (hSB : ∀ b, S b → b < B) :
    ∀ (n s : Nat) (ms : List Nat) (ov : Value) (w : World), Tab w → 0 < B → B ≤ w.heap.size → SlI S w .u32 nv (natsI a) → popN s < n → s ≠ 0 → s < 2 ^ a.length → ConnS a s → (ms ++ blkF a n s).length ≤ 100000 → Own w B 62 1 ov ms.length ((natsI ms).map (.int .u32)) →
      Calls Tryd.prog 76 #[nv, .int .u32 (s : Int), ov] w fun e w' => ∃ u, e = .returned u ∧ Own w' B 62 1 u (ms ++ blkF a n s).length ((natsI (ms ++ blkF a n s)).map (.int .u32)) ∧ StepD w w' ov u := by
  intro n
  induction n with
  | zero => intro s ms ov w _ _ _ _ hp; omega
  | succ n ih =>
    intro s ms ov w ht hB0 hBw hn hp h0 hs2 hc hlen ho
    have hs32 : s < 4294967296 := Nat.lt_of_lt_of_le hs2 (by have := pow_le16 h16; omega)
    have hcv := cutVertices_any ht hn h16 hal hs2
    rw [show maskL ((bitsI s).filter (cutB a s)) = cutsN a s from rfl] at hcv
    have hcl := cutsN_lt (a := a) hs32
    obtain ⟨va, vc, rfl⟩ := hn.slice
    obtain ⟨oa, oc, rfl⟩ := ho.isSlice
    have HIH := Lib.hid ih
    by_cases hz : cutsN a s = 0
    · have he : blkF a (n + 1) s = [s] := by rw [blkF, if_pos hz]
      have HE := Lib.hid he
      rw [hz] at hcv
      rw [he] at hlen
      have hml : ms.length ≤ 99999 := by rw [List.length_append, List.length_singleton] at hlen; omega
      clear ih hz he hcl hlen hp h0 hs2 hc
      go_enter Tryd.func76, Tryd.ntmps76
      go_wp2_with fail
      refine hcv.mono ?_
      rintro e w1 ⟨rfl, hb1⟩
      have ho1 := ho.below hb1 (Nat.le_refl _)
      have hB1 := Nat.le_trans hBw hb1.size
      clear hcv
      go_wp2_with (at_builtin; refine wpList_append1b elVsB rfl _ _ rfl ho1 rfl rfl rfl rfl (by omega) hB1 ?_; intro v' w2 ho2 hk hm)
      go_ret
      refine ⟨_, rfl, ?_, (StepD.ofBelow _ hb1).trans ⟨hk, fun b hb => hm.elim (fun h => .inl (h.symm.trans hb)) (fun h => .inr (by have e := Option.some.inj (h.symm.trans hb); simp at e; omega))⟩⟩
      rw [HE.out, List.length_append, List.length_singleton, natsI_app]
      simpa [natsI] using ho2
    have hvb := ctz_bit hz hcl
    have hle := fun (W : World) (hb : Below w.heap.size w W) => least_any (cutsN a s) W (ht.below hb (Nat.le_refl _)) hz hcl
    obtain ⟨hv, hcut⟩ := (cutsN_bit hs32).1 hvb
    have he : blkF a (n + 1) s = (partsN a (wo s (Lib.ctz 32 (cutsN a s)))).flatMap fun p => blkF a n (p ||| bit (Lib.ctz 32 (cutsN a s))) := by rw [blkF, if_neg hz]
    have hne0 : ((cutsN a s : Nat) == 0) = false := by rw [beq_eq_false_iff_ne]; exact hz
    have hne1 : ((cutsN a s : Int) == 0) = false := by rw [beq_eq_false_iff_ne]; omega
    generalize Lib.ctz 32 (cutsN a s) = v at *
    obtain ⟨x0, y0, hx0, hy0, hn0⟩ := (cutB_iff hs32 hsy hc hv).1 hcut
    have hv32 := bit_lt_of (n := 32) hs32 hv
    have hvn := bit_lt_of hs2 hv
    have hw := wo_lt (v := v) hs32
    have hw2 : wo s v < 2 ^ a.length := Nat.lt_of_le_of_lt (andN_le _ _) hs2
    obtain ⟨f1, f2, f3⟩ := parts_facts hw (hsy.on (wo s v))
    have HP := Lib.hid (fun p (hp2 : p ∈ partsN a (wo s v)) => show popN (p ||| bit v) < n ∧ p ||| bit v ≠ 0 ∧ p ||| bit v < 2 ^ a.length ∧ ConnS a (p ||| bit v) ∧ p < 4294967296 from by
      obtain ⟨r, hr, rfl⟩ := f1 p hp2
      have h1 := part_less hs32 hsy hv hr hx0 hy0 hn0
      refine ⟨by omega, fun e => by have := or_bit (p := reachN a (wo s v) r) (v := v) (i := v); rw [e, Nat.zero_testBit] at this; simp at this, Nat.or_lt_two_pow (lt_bits fun i hi => bit_lt_of hw2 (reach_sub hw hr hi)) (Nat.pow_lt_pow_right (by omega) hvn), part_conn hs32 hsy hc hv hr, reachN_lt _ _ _⟩)
    have hpo := fun (W : World) (hb : Below w.heap.size w W) => partsOf_any (ht.below hb (Nat.le_refl _)) (hn.below hb (Nat.le_refl _)) h16 hal hw2
    have hpl := partsN_len a (wo s v)
    have hone := fun (W : World) => one_any (v : Int) W (by omega) (by omega)
    rw [Int.toNat_natCast] at hone
    have hand : bits BinOp.andNot IntKind.u32 (s : Int) (bit v : Int) = (wo s v : Int) := u32_andNot_nat _ _ hs32 (bit_lt hv32)
    have hbv : bit v < 4294967296 := bit_lt hv32
    have HOR := Lib.hid (fun p (hp2 : p ∈ partsN a (wo s v)) => show bits BinOp.or IntKind.u32 (p : Int) (bit v : Int) = ((p ||| bit v : Nat) : Int) from u32_or_nat p (bit v) (HP.out p hp2).2.2.2.2 (bit_lt hv32))
    have HE := Lib.hid he
    have HL := Lib.hid hlen
    have HH := Lib.hid hn
    have HT := Lib.hid ht
    generalize cutsN a s = cn at *
    generalize hP : partsN a (wo s v) = P at *
    clear ih hz he hcl hvb hcut hx0 hy0 hn0 f1 f2 f3 hp h0 hs2 hc hv hlen hP
    generalize wo s v = sv at *
    go_enter Tryd.func76, Tryd.ntmps76
    go_wp2_with fail
    refine hcv.mono ?_
    rintro e w1 ⟨rfl, hb1⟩
    clear hcv
    go_wp2_with fail
    refine (hle w1 hb1).mono ?_
    rintro e w' ⟨rfl, rfl⟩
    go_wp2_with (go_at_call 116; refine (hone _).mono ?_; rintro e w' ⟨rfl, rfl⟩)
    refine (hpo _ hb1).mono ?_
    rintro e w2 ⟨pv, rfl, hpv, hb2⟩
    have hb12 := hb1.trans (hb2.mono hb1.size)
    have hst0 := StepD.ofBelow (.slice oa ms.length oc) hb12
    have ho2 := ho.below hb12 (Nat.le_refl _)
    have HL0 : RowKit.Hid (ms = ms ++ (P.take 0).flatMap fun p => blkF a n (p ||| bit v)) := Lib.hid (by simp)
    obtain ⟨pa, pc, rfl⟩ := hpv.isSlice
    have hs12 := hb1.size
    have hs22 := hb2.size
    have hoB := ho.lt
    have HOB := Lib.hid hoB
    clear hle hone hpo hb1 hst0 hoB
    go_wp2
    go_loopw [2, 29] (fun ov iv wr => ∃ (k : Nat) (L : List Nat), k ≤ P.length ∧ iv = .int .i64 (k : Int) ∧ RowKit.Hid (L = ms ++ (P.take k).flatMap fun p => blkF a n (p ||| bit v)) ∧ Own wr B 62 1 ov L.length ((natsI L).map (.int .u32)) ∧ StepD w2 wr (.slice oa ms.length oc) ov) (fun _ iv _ => P.length - (RowKit.intOf iv).toNat)
    case atStart => exact ⟨0, ms, Nat.zero_le _, rfl, HL0, ho2, StepD.refl _ _⟩
    case round =>
      clear ho2 HL0
      obtain ⟨k, L, hk, rfl, HLK, hov, hst⟩ := hrel
      by_cases hlt : k < P.length
      case neg =>
        obtain rfl : k = P.length := by omega
        have HLF := Lib.hid (show L = ms ++ blkF a (n + 1) s by rw [HLK.out, List.take_length, HE.out])
        obtain ⟨ra, rc, rfl⟩ := hov.isSlice
        have hfin := (StepD.ofBelow (.slice oa ms.length oc) hb12).trans hst
        go_wp2
        go_ret
        exact ⟨.slice ra L.length rc, rfl, by rw [← HLF.out]; exact hov, hfin⟩
      have hPk := HP.out P[k] (List.getElem_mem hlt)
      have hor := HOR.out P[k] (List.getElem_mem hlt)
      obtain ⟨pg, pc2, hpe⟩ := own_some hpv (by omega)
      simp only [Value.slice.injEq, true_and] at hpe
      obtain ⟨rfl, rfl⟩ := hpe
      have hpc := natsI_cell rfl hpv k hlt
      have hpb := hpv.lt pg rfl
      have hpc2 : wr.cell? ⟨pg, k, none⟩ = some (.int .u32 (P[k] : Int)) := (World.cell?_of_block (a := ⟨pg, k, none⟩) (hst.1.2.2.2.2 pg hpb.2 (fun e => by have := (HOB.out pg e.symm).2; omega))).trans hpc
      have HT1 := Lib.hid (show P.take (k + 1) = P.take k ++ [P[k]] from List.take_succ_eq_append_getElem hlt)
      have HT2 := Lib.hid (show P = P.take k ++ P[k] :: P.drop (k + 1) by rw [← List.drop_eq_getElem_cons hlt, List.take_append_drop])
      generalize P[k] = p at *
      have hbB : Below B w wr := (hb12.mono hBw).trans (hst.toBelow (by omega) (fun b hb => (HOB.out b hb).1))
      have htr : Tab wr := fun i hi => (hbB.cell (p := ⟨0, i, none⟩) hB0).trans (HT.out i hi)
      have hnr := HH.out.keep fun b hb => hbB.block b (hSB b hb)
      have hsz := hst.1.2.2.2.1
      have hih := HIH.out (p ||| bit v) L _ wr htr hB0 (by omega) hnr hPk.1 hPk.2.1 hPk.2.2.1 hPk.2.2.2.1 (by
        have h := HL.out
        rw [HLK.out]
        rw [HE.out, HT2.out] at h
        simp only [List.flatMap_append, List.flatMap_cons, List.length_append] at h ⊢
        omega) hov
      have HLE := Lib.hid (show L ++ blkF a n (p ||| bit v) = ms ++ (P.take (k + 1)).flatMap fun p => blkF a n (p ||| bit v) by
        rw [HLK.out, HT1.out, List.flatMap_append, List.append_assoc]
        simp)
      obtain ⟨L2, hL2⟩ : ∃ L2, L2 = L ++ blkF a n (p ||| bit v) := ⟨_, rfl⟩
      rw [← hL2] at hih HLE
      clear hL2
      obtain ⟨ra, rc, rfl⟩ := hov.isSlice
      clear hPk hpc hnr htr
      go_wp2_with (go_at_call 76; with_reducible refine hih.mono ?_; rintro e w3 ⟨u3, rfl, ho3, hst3⟩; obtain ⟨ra3, rc3, rfl⟩ := ho3.isSlice; have hst4 := hst.trans hst3)
      go_roundw
      case rel => exact ⟨k + 1, L2, by omega, by go_num, HLE, ho3, hst4⟩
      case measure => simp [RowKit.intOf]; omega
end Go.Proofs.YtmcaccacdbcnmaaDoor
