/- BestOrder of the program; the law. -/
import Derived.Test.YtfkdhlmigbkefaaDoorWide9
import Derived.Test.YtfkdhlmigbkefaaDoorMark3
namespace Go.Proofs.YtfkdhlmigbkefaaDoor
open Go.RowKit Go.Maps
theorem storesN_le9 {f : Nat} (h : f ≤ 9) : storesN f ≤ 986410 := by
  match f, h with
  | 0, _ => decide
  | 1, _ => decide
  | 2, _ => decide
  | 3, _ => decide
  | 4, _ => decide
  | 5, _ => decide
  | 6, _ => decide
  | 7, _ => decide
  | 8, _ => decide
  | 9, _ => decide
  | f + 10, h => omega
theorem pick_at {a : List Nat} {n most gone k : Nat} (hk : k < (leftL n gone).length) (h : ∀ u ∈ (leftL n gone).take k, ¬ costN a n gone u ≤ most) (hc : costN a n gone (leftL n gone)[k] ≤ most) : pickN a n most gone = some (leftL n gone)[k] := by
  unfold pickN
  rw [List.find?_eq_some_iff_append]
  refine ⟨by simpa using hc, (leftL n gone).take k, (leftL n gone).drop (k + 1), ?_, fun u hu => by simpa using h u hu⟩
  rw [← List.drop_eq_getElem_cons hk, List.take_append_drop]
theorem pick_none {a : List Nat} {n most gone : Nat} (hI : WideI a n) (h : ∀ u ∈ leftL n gone, ¬ costN a n gone u ≤ most) (hw : widthN a n gone ≤ most) (hl : leftL n gone ≠ []) : False :=
  NoneTo.absurd_ hI (fun u hu hg => h u (mem_leftL.2 ⟨hu, hg⟩)) hw hl
theorem BestI.nextP {a : List Nat} {n most gone k : Nat} {L : List Nat} (hI : WideI a n) (h : BestI a n most gone L) (hp : pickN a n most gone = some k) (hk : k < n) (hg : gone.testBit k = false) (hc : costN a n gone k ≤ most) : BestI a n most (gone ||| bit k) (L ++ [k]) := by
  have hn := leftL_next hk hg
  refine ⟨hI.or_lt h.lt hk, ?_, by have := h.len; rw [List.length_append, List.length_singleton]; omega, by unfold costN at hc; omega⟩
  rw [← h.out, ← hn, orderF, hp, List.append_assoc]; rfl
theorem orderN_len {a : List Nat} {n : Nat} : (orderN a n).length ≤ n := Nat.le_trans (orderF_len _ _ _ _ _) (leftL_len n 0)
theorem SlI.only {S : Nat → Prop} {w : World} {k : IntKind} {ng n nc : Nat} {xs : List Int} (h : SlI S w k (.slice (some ⟨ng, 0, none⟩) n nc) xs) : SlI (fun b => S b ∧ b = ng) w k (.slice (some ⟨ng, 0, none⟩) n nc) xs := by
  obtain ⟨a, b, off, cap, e, hl, ha, hc⟩ := h
  refine ⟨a, b, off, cap, e, hl, fun h0 => ⟨(ha h0).1, (ha h0).2, ?_⟩, hc⟩
  have h1 := (ha h0).1
  subst h1
  simp only [Value.slice.injEq, Option.some.injEq, Addr.mk.injEq] at e
  exact e.1.1.symm
theorem Own.made0W (w : World) (B : Nat) (E : TypeId) (z : Value) (n : Nat) (hB : B ≤ w.heap.size) (hn : n ≤ 1099511627) : Own (w.alloc (.cells (madeCells #[z] n) E)) B E 1 (.slice (some ⟨w.heap.size, 0, none⟩) 0 n) 0 [] := by
  have h := Own.reslice (Own.made w B E z n hB hn) (m := 0) (Nat.zero_le _)
  simpa using h
theorem Own.nilW (w : World) (B : Nat) (E : TypeId) (size : Nat) : Own w B E size (.slice none 0 0) 0 [] := ⟨by simp, .inl ⟨rfl, rfl⟩⟩
theorem WS.app {w w' : World} {a : List Nat} {n ng nc xb mb cnt : Nat} {D : DataW Unit} {r : Option Nat} (h : WS w a n ng nc xb mb cnt D) (hk : KeptBut w w' r) (hr : ∀ b, r = some b → 0 < b ∧ b ≠ ng ∧ b ≠ xb ∧ b ≠ mb) : WS w' a n ng nc xb mb cnt D :=
  have hb : ∀ b, b < w.heap.size → (∀ c, r = some c → b ≠ c) → w'.heap[b]? = w.heap[b]? := fun b hb hn => hk.2.2.2.2 b hb fun e => hn b e.symm rfl
  ⟨fun i hi => (World.cell?_of_block (a := ⟨0, i, none⟩) (hb 0 (by have := h.map.lt; omega) (fun c hc => by have := (hr c hc).1; omega))).trans (h.tab i hi),
    (h.nets.only.keep fun b hb' => hb b hb'.1.2 (fun c hc => by have := (hr c hc).2.1; have := hb'.2; omega)).weak fun b hb' => ⟨hb'.1.1, Nat.lt_of_lt_of_le hb'.1.2 hk.2.2.2.1⟩,
    (World.cell?_of_block (a := ⟨xb, 0, none⟩) (hb xb (cell_lt h.c0) (fun c hc => by have := (hr c hc).2.2.1; omega))).trans h.c0,
    (World.cell?_of_block (a := ⟨xb, 1, none⟩) (hb xb (cell_lt h.c1) (fun c hc => by have := (hr c hc).2.2.1; omega))).trans h.c1, h.ne, h.pos,
    h.map.kept (row := r) ⟨hk.1, hk.2.1, hk.2.2.1, hk.2.2.2.1, hk.2.2.2.2⟩ (fun e => by have := (hr mb e.symm).2.2.2; exact this rfl), h.known⟩
theorem make_capW (n : Nat) (hn : n ≤ 1048576) (w : World) : (Instr.makeSlice 31 (.int .i64 0) (.int .i64 (n : Int))).run Tryd.prog w = .ok (.slice (some ⟨w.heap.size, 0, none⟩) 0 n) (w.alloc (.cells (madeCells #[.int .i64 0] n) 2)) := by
  obtain ⟨i, hi, hzz⟩ := Option.map_eq_some_iff.1 elI64.hi
  simp only [Prod.mk.injEq] at hzz
  obtain ⟨hz, hs, hb⟩ := hzz
  have := run_make (P := Tryd.prog) (w := w) 31 2 i (.int .i64 0) elI64.ht hi hz .i64 .i64 0 n (by omega) (by omega) (by rw [hb]; omega) (by omega)
  simpa [hs, Value.cells] using this
set_option maxHeartbeats 1000000 in
theorem wideW_any {S : Nat → Prop} {v : Value} {xs : List Int} {w : World} (hv : SlI S w .i64 v xs) (hn : xs.length ≤ 1048576) :
    Calls Tryd.prog 45 #[v] w fun e w' => ∃ u, e = .returned u ∧ Own w' w.heap.size 2 1 u xs.length (xs.map (.int .i64)) ∧ Below w.heap.size w w' := by
  obtain ⟨va, vc, rfl⟩ := hv.slice
  have hmk := make_capW xs.length hn
  go_enter Tryd.func45, Tryd.ntmps45
  go_wp2
  clear hmk
  go_loopw [11, 3] (fun i o wr => ∃ k : Nat, k ≤ xs.length ∧ i = .int .i64 k ∧ Own wr w.heap.size 2 1 o k ((xs.take k).map (.int .i64)) ∧ Below w.heap.size w wr) (fun i _ _ => xs.length - (intOf i).toNat)
  case atStart => exact ⟨0, Nat.zero_le _, rfl, by simpa using Own.made0W w w.heap.size 2 (.int .i64 0) xs.length (Nat.le_refl _) (by omega), (Below.refl _ _).alloc (Nat.le_refl _) _⟩
  case round =>
    obtain ⟨k, hk, rfl, hown, hq⟩ := hrel
    have hB := hq.size
    by_cases hlt : k < xs.length
    · obtain ⟨b, off, cap, he, hc⟩ := (hv.below hq (Nat.le_refl _)).at_
      have he := he (by omega)
      simp only [Value.slice.injEq, true_and] at he
      obtain ⟨rfl, rfl⟩ := he
      have hcell := hc k hlt
      clear hc
      have HT := Lib.hid (List.take_succ_eq_append_getElem hlt)
      go_wp2_with (at_builtin; refine wpList_append1 elI64 rfl _ _ rfl hown rfl rfl rfl (by omega) hB ?_; intro v' w1 hown1 hkept hmv)
      go_roundw
      case rel => exact ⟨k + 1, by omega, by go_num, by rw [HT.out, List.map_append]; exact hown1, hkept.below hq hB hown.ge⟩
      case measure => simp [intOf]; omega
    · obtain rfl : k = xs.length := by omega
      rw [List.take_length] at hown
      go_wp2
      go_ret
      exact ⟨_, rfl, hown, hq⟩
set_option maxRecDepth 100000 in
set_option maxHeartbeats 8000000 in
theorem bestOrder_any {a : List Nat} {n ng nc : Nat} {w : World} (ht : Tab w) (hI : WideI a n) (h10 : n ≤ 10) (h1 : 0 < n) (hng : 0 < ng) (hn : SlI (fun b => b < w.heap.size) w .u32 (.slice (some ⟨ng, 0, none⟩) n nc) (natsI a)) (hngl : ng < w.heap.size) :
    Calls Tryd.prog 46 #[.slice (some ⟨ng, 0, none⟩) n nc] w fun e w' => ∃ u, e = .returned u ∧ SlI (fun b => b < w'.heap.size) w' .i64 u (natsI (orderN a n)) ∧ Below w.heap.size w w' := by
  have h16 := hI.le
  have hp := pow16_lt h16
  have hall := fun W : World => allOf_any (some ⟨ng, 0, none⟩) n nc W h16
  have hf32 : firstN n < 4294967296 := by have := firstN_lt h16; omega
  go_enter Tryd.func46, Tryd.ntmps46
  go_wp2_with fail
  refine (newWidths_any ht hn (by omega)).mono ?_
  rintro e w1 ⟨xb, mb, rfl, hmb, hw1, hb1⟩
  have hq2 := hb1.alloc hb1.size (.cells #[] 3)
  have hw2 := hw1.below ((Below.refl w1.heap.size w1).alloc (Nat.le_refl _) (.cells #[] 3))
  have ho2 : Own (w1.alloc (.cells #[] 3)) w1.heap.size 3 1 (.slice (some ⟨w1.heap.size, 0, none⟩) 0 0) 0 [] := by
    have := World.ownsRow_lit (base := w1.heap.size) (e := 3) (size := 1) w1 #[] 0 (Nat.le_refl _) (by unfold maxLen; omega) rfl
    simpa [Own] using this
  have hxb1 : xb < w1.heap.size := cell_lt hw1.c0
  have hmb1 : mb < w1.heap.size := hw1.map.lt
  have hng1 : ng < w1.heap.size := Nat.lt_of_lt_of_le hngl hb1.size
  have hw01 := hb1.size
  have hB2 : w1.heap.size ≤ (w1.alloc (.cells #[] 3)).heap.size := by simp
  have haft : Calls Tryd.prog 34 #[.pointer (some ⟨xb, 0, none⟩), .int .u32 0] (w1.alloc (.cells #[] 3)) (AftP a n ng nc xb mb 0 (storesN (leftL n 0).length) (widthN a n 0) (w1.alloc (.cells #[] 3))) :=
    after_any hI h10 _ 0 0 _ _ rfl (Nat.two_pow_pos _) hw2 (by have := storesN_le (show (leftL n 0).length ≤ 10 by have := leftL_len n 0; omega); omega)
  have hst0 := storesN_le (show (leftL n 0).length ≤ 10 by have := leftL_len n 0; omega)
  unfold AftP at haft
  go_wp2_with fail
  generalize w1.heap.size = B at *
  generalize w1.alloc (.cells #[] 3) = w2 at *
  clear hw1 hb1
  refine haft.mono ?_
  rintro e w3 ⟨rfl, ⟨cnt3, D3, hw3, hc3⟩, hk3⟩
  have hq3 := hk3.below hq2 hq2.size (fun b hb => by simp at hb; omega)
  have ho3 := Own.kept ho2 hk3 (fun b hb he => by simp at he; have := (ho2.lt b hb).1; omega)
  have hB3 := Nat.le_trans hB2 hk3.2.2.2.1
  have HB0 := Lib.hid (BestI.start a n)
  have hm16 := widthN_le a n 0
  have hc30 : cnt3 ≤ 9864101 := by omega
  generalize widthN a n 0 = most at *
  clear haft hw2 hq2 ho2 hB2 hk3 hc3 hst0
  go_wp2
  go_loopw [4, 5] (fun o gn wr => ∃ (L : List Nat) (gone cnt : Nat) (D : DataW Unit), gn = .int .u32 (gone : Int) ∧ Own wr B 3 1 o L.length ((natsI L).map (.int .i64)) ∧ WS wr a n ng nc xb mb cnt D ∧ cnt ≤ 9864101 + 9864100 * L.length ∧ RowKit.Hid (BestI a n most gone L) ∧ Below w.heap.size w wr ∧ B ≤ wr.heap.size) (fun o _ _ => 17 - lenV o)
  case atStart => exact ⟨[], 0, cnt3, D3, rfl, ho3, hw3, by simpa using hc30, HB0, hq3, hB3⟩
  case round =>
    clear ho3 hw3 HB0 hq3 hB3 hc30
    obtain ⟨L, gone, cnt, D, rfl, ho, hw, hcn, HB, hq, hBw⟩ := hrel
    have hg32 : gone < 4294967296 := Nat.lt_trans HB.out.lt hp
    have hLn : L.length ≤ n := by have := HB.out.len; omega
    obtain ⟨oa, oc, rfl⟩ := ho.isSlice
    have hln := left_nil (gone := gone) h16 HB.out.lt
    by_cases he : gone = firstN n
    · have hl0 : (leftL n gone).length = 0 := by rw [hln.2 he]; rfl
      have HEND := Lib.hid (HB.out.end_ (by have := HB.out.len; omega))
      have hb : ((gone : Int) != (firstN n : Int)) = false := by rw [bne_eq_false_iff_eq, he]
      have hb2 : (gone != firstN n) = false := by rw [bne_eq_false_iff_eq]; exact he
      have hoi := Own.ints (xs := natsI L) ho (by omega)
      have hol := fun b hb => (ho.lt b hb).2
      clear hln hl0 he ho hw
      go_wp2_with (go_at_call 61; refine (hall _).mono ?_; rintro e w' ⟨rfl, rfl⟩)
      go_ret
      exact ⟨_, rfl, by rw [← HEND.out]; exact hoi.weak (fun b hb => hol b hb), hq⟩
    have hb : ((gone : Int) != (firstN n : Int)) = true := by rw [bne_iff_ne]; omega
    have hb2 : (gone != firstN n) = true := by rw [bne_iff_ne]; exact he
    have HNE := Lib.hid (fun h => he (hln.1 h))
    have han : bits BinOp.andNot IntKind.u32 (firstN n : Int) (gone : Int) = (andN (firstN n) gone : Int) := u32_andNot_nat _ _ hf32 hg32
    have hli := list_any (andN (firstN n) gone) wr hw.tab (Nat.lt_of_le_of_lt (andN_le _ _) hf32)
    have hlb := leftL_bits h16 hg32
    have hll : (bitsI (andN (firstN n) gone)).length = (leftL n gone).length := by rw [hlb, natsI_len]
    have hRn := leftL_len n gone
    have HLB := Lib.hid hlb; have HLL := Lib.hid hll
    clear hlb hll hln he
    go_wp2_with (go_at_call 61; refine (hall _).mono ?_; rintro e w' ⟨rfl, rfl⟩)
    refine hli.mono ?_
    rintro e w4 ⟨u, rfl, hu, hb4⟩
    have hui := Own.ints (xs := bitsI (andN (firstN n) gone)) hu (by rw [HLL.out]; omega)
    have hub := hu.ge
    rw [HLB.out] at hui
    rw [HLL.out] at hu
    obtain ⟨ua, uc, rfl⟩ := hu.isSlice
    have hul := fun b hb => (hu.lt b hb).2
    obtain ⟨ub, uo, ucap, hue, huc⟩ := hui.at_
    rw [natsI_len] at hue
    have HUC := Lib.hid huc
    have HUB := Lib.hid hub
    have hq4 := hq.trans (hb4.mono hq.size)
    have ho4 := ho.below hb4 (Nat.le_refl _)
    have hw4 := hw.below hb4
    have hB4 := Nat.le_trans hBw hb4.size
    have hwr := hBw
    clear hu hui hli huc hub hb hb2 hq ho hw hBw
    go_wp2
    go_loopw [4, 5, 24] (fun o gn i ws => ∃ (k cnt : Nat) (D : DataW Unit), k ≤ (leftL n gone).length ∧ i = .int .i64 k ∧ gn = .int .u32 (gone : Int) ∧ o = .slice oa L.length oc ∧ Own ws B 3 1 (.slice oa L.length oc) L.length ((natsI L).map (.int .i64)) ∧ WS ws a n ng nc xb mb cnt D ∧ cnt ≤ 9864101 + 9864100 * L.length + 986410 * k ∧ RowKit.Hid (∀ u ∈ (leftL n gone).take k, ¬ costN a n gone u ≤ most) ∧ Below w.heap.size w ws ∧ B ≤ ws.heap.size ∧ KeptBut w4 ws (some mb)) (fun _ _ i _ => (leftL n gone).length - (intOf i).toNat)
    case atStart => exact ⟨0, cnt, D, Nat.zero_le _, rfl, rfl, rfl, ho4, hw4, by omega, Lib.hid (by simp), hq4, hB4, KeptBut.ofBelow (Below.refl _ _)⟩
    case round =>
      clear ho4 hw4 hq4 hB4 hcn
      obtain ⟨wi, rfl⟩ : ∃ wi : World, wi = wr := ⟨_, rfl⟩
      obtain ⟨k, cnt, D, hk, rfl, rfl, rfl, ho, hw, hcn, HF, hq, hBw, hk4⟩ := hrel
      by_cases hlt : k < (leftL n gone).length
      case neg =>
        obtain rfl : k = (leftL n gone).length := by omega
        have h := HF.out
        rw [List.take_length] at h
        exact (pick_none hI h HB.out.wid HNE.out).elim
      have hc := HUC.out k (by rw [natsI_len]; exact hlt)
      rw [natsI_get] at hc
      have hue2 := hue (by omega)
      simp only [Value.slice.injEq] at hue2
      obtain ⟨rfl, -, rfl⟩ := hue2
      obtain ⟨hxn, hxg⟩ := mem_leftL.1 (List.getElem_mem hlt)
      have hpk := fun h => pick_at (a := a) (most := most) hlt HF.out h
      have htk : ∀ (h : ¬ costN a n gone (leftL n gone)[k] ≤ most), ∀ u ∈ (leftL n gone).take (k + 1), ¬ costN a n gone u ≤ most := fun h u hu => by
        rw [List.take_succ_eq_append_getElem hlt, List.mem_append, List.mem_singleton] at hu
        rcases hu with hu | rfl
        · exact HF.out u hu
        · exact h
      have hnx := leftL_next hxn hxg
      generalize (leftL n gone)[k] = x at hc hxn hxg hpk htk hnx
      have HPK := Lib.hid hpk; have HTK := Lib.hid htk
      have hmbu : ub ≠ mb := by have := HUB.out ub rfl; omega
      have hcw := (World.cell?_of_block (a := ⟨ub, uo + k, none⟩) (hk4.2.2.2.2 ub (cell_lt hc) (by simpa using hmbu))).trans hc
      have hst9 := storesN_le9 (show (leftL n (gone ||| bit x)).length ≤ 9 by omega)
      have hor : bits BinOp.or IntKind.u32 (gone : Int) (bit x : Int) = ((gone ||| bit x : Nat) : Int) := u32_or_nat gone (bit x) hg32 (bit_lt (by omega))
      have hone := fun W : World => one_any (x : Int) W (by omega) (by omega)
      rw [Int.toNat_natCast] at hone
      have hwi := with_any hI h10 HB.out.lt hxn hw (fun w' h => after_any hI h10 _ (gone ||| bit x) cnt D w' rfl (hI.or_lt HB.out.lt hxn) h (by omega))
      have HNX := Lib.hid (fun hp hc => HB.out.nextP (k := x) hI hp hxn hxg hc)
      generalize costN a n gone x = c at *
      generalize storesN (leftL n (gone ||| bit x)).length = top at *
      unfold AftP at hwi
      have hL10 : L.length ≤ 10 := by omega
      clear hnx hpk htk hxg hmbu hc hue HF
      go_wp2_with fail
      refine hwi.mono ?_
      rintro e w5 ⟨rfl, ⟨cnt5, D5, hw5, hc5⟩, hk5⟩
      have hq5 := hk5.below hq hq.size (fun b hb => by simp at hb; omega)
      have ho5 := Own.kept ho hk5 (fun b hb he => by simp at he; have := (ho.lt b hb).1; omega)
      have hB5 := Nat.le_trans hBw hk5.2.2.2.1
      have hcnt5 : cnt5 ≤ 9864101 + 9864100 * L.length + 986410 * (k + 1) := by omega
      have hk10 : 986410 * (k + 1) ≤ 9864100 := Nat.le_trans (Nat.mul_le_mul_left 986410 (show k + 1 ≤ 10 by omega)) (by decide)
      have hcnt6 : cnt5 ≤ 9864101 + 9864100 * (L.length + 1) := Nat.le_trans hcnt5 (by rw [Nat.mul_succ 9864100 L.length, ← Nat.add_assoc]; exact Nat.add_le_add_left hk10 _)
      clear hk10
      clear hwi ho hw hq
      by_cases hcm : c ≤ most
      · have HB2 := Lib.hid (HNX.out (HPK.out hcm) hcm)
        clear hcnt5
        go_wp2_with (first | (go_at_call 68; refine (hone _).mono ?_; rintro e w' ⟨rfl, rfl⟩) | (at_builtin; refine wpList_append1b elInt rfl _ _ rfl ho5 rfl rfl rfl rfl (by omega) hB5 ?_; intro o' w6 ho6 hkept hmv))
        have hw6 := hw5.app hkept (fun b hb => by have := (ho5.lt b hb).1; exact ⟨by omega, by omega, by omega, by omega⟩)
        have hq6 := hkept.below hq5 hq5.size (fun b hb => by have := (ho5.lt b hb).1; omega)
        have hB6 := Nat.le_trans hB5 hkept.2.2.2.1
        have hlen6 : lenV o' = L.length + 1 := by obtain ⟨a, c, rfl⟩ := ho6.isSlice; rfl
        go_roundw
        case rel => exact ⟨L ++ [x], gone ||| bit x, cnt5, D5, rfl, by simpa [natsI] using ho6, hw6, by rw [List.length_append, List.length_singleton]; exact hcnt6, HB2, hq6, hB6⟩
        case measure => rw [hlen6]; simp only [lenV]; omega
      · have HF2 : RowKit.Hid (∀ u ∈ (leftL n gone).take (k + 1), ¬ costN a n gone u ≤ most) := Lib.hid (HTK.out hcm)
        clear hcnt6
        go_wp2
        go_roundw
        case rel => exact ⟨k + 1, cnt5, D5, by omega, by go_num, rfl, rfl, ho5, hw5, hcnt5, HF2, hq5, hB5, hk4.trans hk5⟩
        case measure => simp [intOf]; omega
set_option maxRecDepth 100000 in
set_option maxHeartbeats 4000000 in
theorem implBestOrder_any {S : Nat → Prop} {v : Value} {g : List (List Int)} {w : World} (ht : Tab w) (hv : SlR S w v g) :
    Calls Tryd.prog 20 #[.agg #[v]] w fun e w' => ∃ u0, e = .returned u0 ∧ Own w' w.heap.size 2 1 u0 (bestL g).length ((bestL g).map (.int .i64)) ∧ Below w.heap.size w w' := by
  have hq0 : Below w.heap.size w (w.alloc (.cells #[v] 27)) := (Below.refl _ _).alloc (Nat.le_refl _) _
  obtain ⟨va, vc, rfl⟩ := hv.slice
  have hwi := isWide_any (hv.below hq0 (Nat.le_refl _))
  by_cases hw : wideB g = true
  case neg =>
    have hw' : wideB g = false := by simpa using hw
    rw [hw'] at hwi
    have HE := Lib.hid (show bestL g = [] by simp [bestL, hw'])
    clear hw hw'
    go_enter Tryd.func20, Tryd.ntmps20
    go_wp2_with fail
    refine hwi.mono ?_
    rintro e w1 ⟨rfl, hb1⟩
    go_wp2
    go_ret
    exact ⟨_, rfl, by rw [HE.out]; exact Own.nilW _ _ _ _, hq0.trans (hb1.mono hq0.size)⟩
  rw [hw] at hwi
  have hgw : gokB g = true ∧ g.length ≤ 10 := by simpa [wideB] using hw
  have hg := gokB_iff.1 hgw.1
  have h10 := hgw.2
  have h0 : 0 < g.length := by have := hg.lo; omega
  have HE := Lib.hid (show bestL g = natsI (orderN (netsL g) g.length) by simp [bestL, hw])
  have HI := Lib.hid (WideI.of hg)
  clear hw hgw
  go_enter Tryd.func20, Tryd.ntmps20
  go_wp2_with fail
  refine hwi.mono ?_
  rintro e w1 ⟨rfl, hb1⟩
  have hq1 := hq0.trans (hb1.mono hq0.size)
  have cg1 : w1.cell? ⟨w.heap.size, 0, none⟩ = some (.slice va g.length vc) := (hb1.cell (p := ⟨w.heap.size, 0, none⟩) (by simp)).trans (by simp [go_sem])
  have hw1 : w.heap.size < w1.heap.size := cell_lt cg1
  clear hwi hq0 hb1
  go_wp2_with fail
  refine (netsOf_any _ _ _ (hv.below hq1 (Nat.le_refl _)) hg).mono ?_
  rintro e w2 ⟨u2, rfl, hu2, hb2⟩
  have hq2 := hq1.trans (hb2.mono hq1.size)
  obtain ⟨ng, nc, rfl⟩ := own_some hu2 h0
  have hngl := hu2.lt ng rfl
  have hni := (Own.ints (xs := natsI (netsL g)) hu2 (by omega)).weak (S' := fun b => b < w2.heap.size) (fun b hb => by simp [Value.ownBlock] at hb; omega)
  have hbo := bestOrder_any (ht.below hq2 (Nat.le_refl _)) HI.out h10 h0 (by omega) hni hngl.2
  have hol := orderN_len (a := netsL g) (n := g.length)
  clear hu2 hni hb2 hq1 cg1 hngl
  go_wp2_with fail
  refine hbo.mono ?_
  rintro e w3 ⟨u3, rfl, hu3, hb3⟩
  have hq3 := hq2.trans (hb3.mono hq2.size)
  have hwd := wideW_any hu3 (by rw [natsI_len]; omega)
  clear hbo hb3 hq2
  go_wp2_with fail
  refine hwd.mono ?_
  rintro e w4 ⟨u4, rfl, hu4, hb4⟩
  clear hwd
  go_wp2
  go_ret
  exact ⟨_, rfl, by rw [HE.out]; exact Own.weak hu4 hq3.size, hq3.trans (hb4.mono hq3.size)⟩
theorem bestL_len {g : List (List Int)} (hw : g.length ≤ 1048576) : (bestL g).length ≤ 1048576 := by
  unfold bestL
  split
  · rw [natsI_len]; exact Nat.le_trans orderN_len hw
  · simp
theorem conBestOrder {g0 : List (List Int)} (hsm0 : SmallR g0 1048576) : ∃ (r0 : List Int), (∀ {S0 : Nat → Prop} {v0 : Value} {w : World}, SlR S0 w v0 g0 → Calls Tryd.prog 19 #[.agg #[v0]] w fun e w' => ∃ u0, e = .returned (u0) ∧ SlI (fun b => b < w'.heap.size) w' .i64 u0 r0 ∧ Below w.heap.size w w') ∧
    (∀ {S0 : Nat → Prop} {v0 : Value} {w : World}, Tab w → SlR S0 w v0 g0 → Calls Tryd.prog 20 #[.agg #[v0]] w fun e w' => ∃ u0, e = .returned (u0) ∧ Own w' w.heap.size 2 1 u0 r0.length (r0.map (.int .i64)) ∧ Below w.heap.size w w') ∧
    r0.length ≤ 1048576 := by
  exact ⟨bestL g0, fun h0 => specBestOrder_any h0, fun ht h0 => implBestOrder_any ht h0, bestL_len (by have := hsm0.1; omega)⟩
set_option maxHeartbeats 16000000 in
theorem lawBestOrder_any {S0 : Nat → Prop} (v0 : Value) (g0 : List (List Int)) (w : World) (ht : Tab w) (hv0 : SlR S0 w v0 g0) :
    Calls Tryd.prog 6 #[.agg #[v0]] w fun e w' => e = .returned (.bool true) ∧ Below w.heap.size w w' := by
  obtain ⟨a0, c0, rfl⟩ := hv0.slice
  have q0 : Below w.heap.size w (w.alloc (.cells #[.slice a0 g0.length c0] 24)) := (Below.refl _ _).alloc (Nat.le_refl _) _
  go_enter Tryd.func6, Tryd.ntmps6
  go_wp2_with fail
  refine (szGraph_any _ _ _ _ (hv0.below q0 (Nat.le_refl _)) (by omega) (by omega)).mono ?_
  rintro e w1 ⟨r1, rfl, hr1, hs1, hm1, hb1⟩
  have q1 := q0.trans (hb1.mono q0.size)
  have z0 := q0.size
  have z1 : w.heap.size + 1 ≤ w1.heap.size := by have := hb1.size; simp at this; omega
  have b0_1 : w1.cell? ⟨w.heap.size, 0, none⟩ = some (.slice a0 g0.length c0) := (hb1.cell (p := ⟨w.heap.size, 0, none⟩) (by simp <;> omega)).trans (by simp [go_sem])
  by_cases hneg1 : r1 < 0
  case pos =>
    go_wp2
    go_ret
    exact ⟨rfl, q1⟩
  have hsm0 : SmallR g0 1048576 := hm1 (by omega)
  obtain ⟨r0, hS, hI, hN0⟩ := conBestOrder hsm0
  have hB0 : r0.length ≤ 9223372036854775807 := by omega
  go_wp2_with fail
  refine (toGraphR_any (hv0.below q1 (Nat.le_refl _)) hsm0).mono ?_
  rintro e w2 ⟨x2, rfl, y2_2, hb2⟩
  have q2 := q1.trans (hb2.mono q1.size)
  have z2 := hb2.size
  have b0_2 : w2.cell? ⟨w.heap.size, 0, none⟩ = some (.slice a0 g0.length c0) := (hb2.cell (p := ⟨w.heap.size, 0, none⟩) (cell_lt b0_1)).trans b0_1
  obtain ⟨xa2, xc2, rfl⟩ := y2_2.isSlice
  go_wp2_with fail
  refine (hS (y2_2.rows hsm0)).mono ?_
  rintro e w3 ⟨w0u0, rfl, w0_0_3, hb3⟩
  have q3 := q2.trans (hb3.mono q2.size)
  have z3 := hb3.size
  have b0_3 : w3.cell? ⟨w.heap.size, 0, none⟩ = some (.slice a0 g0.length c0) := (hb3.cell (p := ⟨w.heap.size, 0, none⟩) (cell_lt b0_2)).trans b0_2
  have y2_3 := y2_2.below hb3 (Nat.le_refl _)
  obtain ⟨w0a0, w0c0, rfl⟩ := w0_0_3.slice
  go_wp2_with fail
  refine (toGraphR_any (hv0.below q3 (Nat.le_refl _)) hsm0).mono ?_
  rintro e w4 ⟨x4, rfl, y4_4, hb4⟩
  have q4 := q3.trans (hb4.mono q3.size)
  have z4 := hb4.size
  have b0_4 : w4.cell? ⟨w.heap.size, 0, none⟩ = some (.slice a0 g0.length c0) := (hb4.cell (p := ⟨w.heap.size, 0, none⟩) (cell_lt b0_3)).trans b0_3
  have y2_4 := y2_3.below hb4 (Nat.le_refl _)
  have w0_0_4 := w0_0_3.below hb4 (Nat.le_refl _)
  obtain ⟨xa4, xc4, rfl⟩ := y4_4.isSlice
  have hb5 : Below w4.heap.size w4 (w4.alloc (.cells #[.slice xa4 g0.length xc4] 27)) := (Below.refl _ _).alloc (Nat.le_refl _) _
  obtain ⟨w5, ew5⟩ : ∃ x, x = (w4.alloc (.cells #[.slice xa4 g0.length xc4] 27)) := ⟨_, rfl⟩
  rw [← ew5] at hb5
  have l5_5 : w5.cell? ⟨w4.heap.size, 0, none⟩ = some (.slice xa4 g0.length xc4) := by rw [ew5]; simp [go_sem]
  have zz5 : w5.heap.size = w4.heap.size + 1 := by rw [ew5]; simp
  have q5 := q4.trans (hb5.mono q4.size)
  have z5 := hb5.size
  have b0_5 : w5.cell? ⟨w.heap.size, 0, none⟩ = some (.slice a0 g0.length c0) := (hb5.cell (p := ⟨w.heap.size, 0, none⟩) (cell_lt b0_4)).trans b0_4
  have y2_5 := y2_4.below hb5 (Nat.le_refl _)
  have w0_0_5 := w0_0_4.below hb5 (Nat.le_refl _)
  have y4_5 := y4_4.below hb5 (Nat.le_refl _)
  have b0_5e : (w4.alloc (.cells #[.slice xa4 g0.length xc4] 27)).cell? ⟨w.heap.size, 0, none⟩ = some (.slice a0 g0.length c0) := by rw [← ew5]; exact b0_5
  have l5_5e : (w4.alloc (.cells #[.slice xa4 g0.length xc4] 27)).cell? ⟨w4.heap.size, 0, none⟩ = some (.slice xa4 g0.length xc4) := by rw [← ew5]; exact l5_5
  go_wp2_with fail
  rw [← ew5]
  refine (hI (ht.below q5 (Nat.le_refl _)) (y4_5.rows hsm0)).mono ?_
  rintro e w6 ⟨g0u0, rfl, g0_0_6, hb6⟩
  have q6 := q5.trans (hb6.mono q5.size)
  have z6 := hb6.size
  have b0_6 : w6.cell? ⟨w.heap.size, 0, none⟩ = some (.slice a0 g0.length c0) := (hb6.cell (p := ⟨w.heap.size, 0, none⟩) (cell_lt b0_5)).trans b0_5
  have l5_6 : w6.cell? ⟨w4.heap.size, 0, none⟩ = some (.slice xa4 g0.length xc4) := (hb6.cell (p := ⟨w4.heap.size, 0, none⟩) (cell_lt l5_5)).trans l5_5
  have y2_6 := y2_5.below hb6 (Nat.le_refl _)
  have w0_0_6 := w0_0_5.below hb6 (Nat.le_refl _)
  have y4_6 := y4_5.below hb6 (Nat.le_refl _)
  obtain ⟨g0a0, g0c0, rfl⟩ := g0_0_6.isSlice
  go_wp2_with fail
  refine (eqI_same (Own.ints g0_0_6 hB0) w0_0_6).mono ?_
  rintro e w7 ⟨rfl, hb7⟩
  have q7 := q6.trans (hb7.mono q6.size)
  have z7 := hb7.size
  have b0_7 : w7.cell? ⟨w.heap.size, 0, none⟩ = some (.slice a0 g0.length c0) := (hb7.cell (p := ⟨w.heap.size, 0, none⟩) (cell_lt b0_6)).trans b0_6
  have l5_7 : w7.cell? ⟨w4.heap.size, 0, none⟩ = some (.slice xa4 g0.length xc4) := (hb7.cell (p := ⟨w4.heap.size, 0, none⟩) (cell_lt l5_6)).trans l5_6
  have y2_7 := y2_6.below hb7 (Nat.le_refl _)
  have w0_0_7 := w0_0_6.below hb7 (Nat.le_refl _)
  have y4_7 := y4_6.below hb7 (Nat.le_refl _)
  have g0_0_7 := g0_0_6.below hb7 (Nat.le_refl _)
  go_wp2
  refine wp_region_held_drew (S := (fun w' => w'.cell? ⟨w.heap.size, 0, none⟩ = some (.slice a0 g0.length c0) ∧ w'.cell? ⟨w4.heap.size, 0, none⟩ = some (.slice xa4 g0.length xc4))) (by kernel_rfl) ?_ (fun hHeld => ?_)
  · first | exact ⟨‹_›, ‹_›⟩ | assumption | (simp [*, go_sem])
  refine wpAnyH_take (i := 0) (v := ?v1) (by simp only [List.getElem?_toArray, List.getElem?_cons_zero]; exact rfl) (by kernel_rfl) (by kernel_rfl) (by kernel_rfl) (by intro _ _ _ h; exact h) (Or.inl ⟨by rfl, ?y1⟩) hHeld ?_
  case y1 => (intro w hSw; (try dsimp only at hSw); go_simp; try (with_reducible rfl))
  try simp only [Act.put, List.setIfInBounds_toArray, List.set_cons_zero, List.set_cons_succ]
  refine wpAnyH_take (i := 1) (v := ?v2) (by simp only [List.getElem?_toArray, List.getElem?_cons_succ, List.getElem?_cons_zero]; exact rfl) (by kernel_rfl) (by kernel_rfl) (by kernel_rfl) (by intro _ _ _ h; exact h) (Or.inl ⟨by rfl, ?y2⟩) hHeld ?_
  case y2 => (intro w hSw; (try dsimp only at hSw); go_simp; try (with_reducible rfl))
  try simp only [Act.put, List.setIfInBounds_toArray, List.set_cons_zero, List.set_cons_succ]
  refine wpAnyH_ready (rs := [2]) (by kernel_rfl) (by simp) ?_
  refine AllReadyH.cons (by simp only [List.getElem?_toArray, List.getElem?_cons_succ, List.getElem?_cons_zero]; exact rfl) (fun K hK => ?_) AllReadyH.nil
  go_simp
  have q7d := q7.drew
  have y2_7k := y2_7
  have y2_7 := y2_7.below ((Below.refl w7.heap.size w7).drew) (Nat.le_refl _)
  have w0_0_7k := w0_0_7
  have w0_0_7 := w0_0_7.below ((Below.refl w7.heap.size w7).drew) (Nat.le_refl _)
  have y4_7k := y4_7
  have y4_7 := y4_7.below ((Below.refl w7.heap.size w7).drew) (Nat.le_refl _)
  have g0_0_7k := g0_0_7
  have g0_0_7 := g0_0_7.below ((Below.refl w7.heap.size w7).drew) (Nat.le_refl _)
  refine (toGraph_any _ _ _ (hv0.below q7d (Nat.le_refl _)) hsm0).mono ?_
  rintro e w8 ⟨x8, rfl, y8_8, hb8⟩
  replace hb8 : Below w7.heap.size w7 w8 := ⟨hb8.os, hb8.tape, hb8.output, hb8.size, hb8.block⟩
  replace y2_7 := y2_7k
  replace w0_0_7 := w0_0_7k
  replace y4_7 := y4_7k
  replace g0_0_7 := g0_0_7k
  have q8 := q7.trans (hb8.mono q7.size)
  have z8 := hb8.size
  have b0_8 : w8.cell? ⟨w.heap.size, 0, none⟩ = some (.slice a0 g0.length c0) := (hb8.cell (p := ⟨w.heap.size, 0, none⟩) (cell_lt b0_7)).trans b0_7
  have l5_8 : w8.cell? ⟨w4.heap.size, 0, none⟩ = some (.slice xa4 g0.length xc4) := (hb8.cell (p := ⟨w4.heap.size, 0, none⟩) (cell_lt l5_7)).trans l5_7
  have y2_8 := y2_7.below hb8 (Nat.le_refl _)
  have w0_0_8 := w0_0_7.below hb8 (Nat.le_refl _)
  have y4_8 := y4_7.below hb8 (Nat.le_refl _)
  have g0_0_8 := g0_0_7.below hb8 (Nat.le_refl _)
  try dsimp only
  refine hK.out _ _ ?h4 (fun hHeld => ?_)
  case h4 => first | exact ⟨‹_›, ‹_›⟩ | assumption | (simp [*, go_sem])
  clear hK K
  try simp only [Act.put, List.setIfInBounds_toArray, List.set_cons_zero, List.set_cons_succ]
  refine wpAnyH_ready (rs := [3]) (by kernel_rfl) (by simp) ?_
  refine AllReadyH.cons (by simp only [List.getElem?_toArray, List.getElem?_cons_succ, List.getElem?_cons_zero]; exact rfl) (fun K hK => ?_) AllReadyH.nil
  go_simp
  refine (eqG_same (y4_8.rows hsm0) y8_8).mono ?_
  rintro e w9 ⟨rfl, hb9⟩
  have q9 := q8.trans (hb9.mono q8.size)
  have z9 := hb9.size
  have b0_9 : w9.cell? ⟨w.heap.size, 0, none⟩ = some (.slice a0 g0.length c0) := (hb9.cell (p := ⟨w.heap.size, 0, none⟩) (cell_lt b0_8)).trans b0_8
  have l5_9 : w9.cell? ⟨w4.heap.size, 0, none⟩ = some (.slice xa4 g0.length xc4) := (hb9.cell (p := ⟨w4.heap.size, 0, none⟩) (cell_lt l5_8)).trans l5_8
  have y2_9 := y2_8.below hb9 (Nat.le_refl _)
  have w0_0_9 := w0_0_8.below hb9 (Nat.le_refl _)
  have y4_9 := y4_8.below hb9 (Nat.le_refl _)
  have g0_0_9 := g0_0_8.below hb9 (Nat.le_refl _)
  have y8_9 := y8_8.below hb9 (Nat.le_refl _)
  try dsimp only
  refine hK.out _ _ ?h6 (fun hHeld => ?_)
  case h6 => first | exact ⟨‹_›, ‹_›⟩ | assumption | (simp [*, go_sem])
  clear hK K
  try simp only [Act.put, List.setIfInBounds_toArray, List.set_cons_zero, List.set_cons_succ]
  refine wpAnyH_take (i := 4) (v := ?v7) (by simp only [List.getElem?_toArray, List.getElem?_cons_succ, List.getElem?_cons_zero]; exact rfl) (by kernel_rfl) (by kernel_rfl) (by kernel_rfl) (by intro _ _ _ h; exact h) (Or.inl ⟨by rfl, ?y7⟩) hHeld ?_
  case y7 => (intro w hSw; (try dsimp only at hSw); go_simp; try (with_reducible rfl))
  try simp only [Act.put, List.setIfInBounds_toArray, List.set_cons_zero, List.set_cons_succ]
  refine wpAnyH_done (by kernel_rfl) ?_ _
  go_wp2_with fail
  refine (markG_any y4_9 hsm0 (by omega) (by omega) (by omega)).mono ?_
  rintro e w10 ⟨k10, rfl, hk10, hl10, ht10⟩
  have q10 := ht10.below q9 (by have := q9.size; omega) q9.size
  have z10 := ht10.size
  have b0_10 : w10.cell? ⟨w.heap.size, 0, none⟩ = some (.slice a0 g0.length c0) := (ht10.cell (p := ⟨w.heap.size, 0, none⟩) (cell_lt b0_9) (by have : w.heap.size < w9.heap.size := cell_lt b0_9; show w.heap.size < _ ∨ _ ≤ w.heap.size; omega)).trans b0_9
  have l5_10 : w10.cell? ⟨w4.heap.size, 0, none⟩ = some (.slice xa4 g0.length xc4) := (ht10.cell (p := ⟨w4.heap.size, 0, none⟩) (cell_lt l5_9) (by have : w4.heap.size < w9.heap.size := cell_lt l5_9; show w4.heap.size < _ ∨ _ ≤ w4.heap.size; omega)).trans l5_9
  have y2_10 := y2_9.between ht10 (by omega)
  have w0_0_10 := w0_0_9.between ht10 (fun b (hb : b < w3.heap.size) => ⟨by omega, by omega⟩)
  have g0_0_10 := g0_0_9.between ht10 (by omega)
  have hkn10 : ¬ k10 < 0 := by omega
  go_wp2_with fail
  refine (eqI_same (Own.ints g0_0_10 hB0) w0_0_10).mono ?_
  rintro e w11 ⟨rfl, hb11⟩
  have q11 := q10.trans (hb11.mono q10.size)
  have z11 := hb11.size
  have b0_11 : w11.cell? ⟨w.heap.size, 0, none⟩ = some (.slice a0 g0.length c0) := (hb11.cell (p := ⟨w.heap.size, 0, none⟩) (cell_lt b0_10)).trans b0_10
  have l5_11 : w11.cell? ⟨w4.heap.size, 0, none⟩ = some (.slice xa4 g0.length xc4) := (hb11.cell (p := ⟨w4.heap.size, 0, none⟩) (cell_lt l5_10)).trans l5_10
  have y2_11 := y2_10.below hb11 (Nat.le_refl _)
  have w0_0_11 := w0_0_10.below hb11 (Nat.le_refl _)
  have g0_0_11 := g0_0_10.below hb11 (Nat.le_refl _)
  go_wp2_with fail
  refine (markI_any g0_0_11 hN0).mono ?_
  rintro e w12 ⟨rfl, g0_0_12, ht12⟩
  have q12 := ht12.below q11 (by have := q11.size; omega) q11.size
  have z12 := ht12.size
  have b0_12 : w12.cell? ⟨w.heap.size, 0, none⟩ = some (.slice a0 g0.length c0) := (ht12.cell (p := ⟨w.heap.size, 0, none⟩) (cell_lt b0_11) (by have : w.heap.size < w11.heap.size := cell_lt b0_11; show w.heap.size < _ ∨ _ ≤ w.heap.size; omega)).trans b0_11
  have l5_12 : w12.cell? ⟨w4.heap.size, 0, none⟩ = some (.slice xa4 g0.length xc4) := (ht12.cell (p := ⟨w4.heap.size, 0, none⟩) (cell_lt l5_11) (by have : w4.heap.size < w11.heap.size := cell_lt l5_11; show w4.heap.size < _ ∨ _ ≤ w4.heap.size; omega)).trans l5_11
  have y2_12 := y2_11.between ht12 (by omega)
  have w0_0_12 := w0_0_11.between ht12 (fun b (hb : b < w3.heap.size) => ⟨by omega, by omega⟩)
  go_wp2_with fail
  refine (heldI_any (Own.ints g0_0_12 hB0) hN0).mono ?_
  rintro e w13 ⟨rfl, hb13⟩
  have q13 := q12.trans (hb13.mono q12.size)
  have z13 := hb13.size
  have b0_13 : w13.cell? ⟨w.heap.size, 0, none⟩ = some (.slice a0 g0.length c0) := (hb13.cell (p := ⟨w.heap.size, 0, none⟩) (cell_lt b0_12)).trans b0_12
  have l5_13 : w13.cell? ⟨w4.heap.size, 0, none⟩ = some (.slice xa4 g0.length xc4) := (hb13.cell (p := ⟨w4.heap.size, 0, none⟩) (cell_lt l5_12)).trans l5_12
  have y2_13 := y2_12.below hb13 (Nat.le_refl _)
  have w0_0_13 := w0_0_12.below hb13 (Nat.le_refl _)
  have g0_0_13 := g0_0_12.below hb13 (Nat.le_refl _)
  have hmn13 : ¬ (1 + (r0.length : Int)) < 0 := by omega
  go_wp2_with fail
  refine (toGraphR_any (hv0.below q13 (Nat.le_refl _)) hsm0).mono ?_
  rintro e w14 ⟨x14, rfl, y14_14, hb14⟩
  have q14 := q13.trans (hb14.mono q13.size)
  have z14 := hb14.size
  have b0_14 : w14.cell? ⟨w.heap.size, 0, none⟩ = some (.slice a0 g0.length c0) := (hb14.cell (p := ⟨w.heap.size, 0, none⟩) (cell_lt b0_13)).trans b0_13
  have l5_14 : w14.cell? ⟨w4.heap.size, 0, none⟩ = some (.slice xa4 g0.length xc4) := (hb14.cell (p := ⟨w4.heap.size, 0, none⟩) (cell_lt l5_13)).trans l5_13
  have y2_14 := y2_13.below hb14 (Nat.le_refl _)
  have w0_0_14 := w0_0_13.below hb14 (Nat.le_refl _)
  have g0_0_14 := g0_0_13.below hb14 (Nat.le_refl _)
  obtain ⟨xa14, xc14, rfl⟩ := y14_14.isSlice
  go_wp2_with fail
  refine (hI (ht.below q14 (Nat.le_refl _)) (y14_14.rows hsm0)).mono ?_
  rintro e w15 ⟨h0u0, rfl, h0_0_15, hb15⟩
  have q15 := q14.trans (hb15.mono q14.size)
  have z15 := hb15.size
  have b0_15 : w15.cell? ⟨w.heap.size, 0, none⟩ = some (.slice a0 g0.length c0) := (hb15.cell (p := ⟨w.heap.size, 0, none⟩) (cell_lt b0_14)).trans b0_14
  have l5_15 : w15.cell? ⟨w4.heap.size, 0, none⟩ = some (.slice xa4 g0.length xc4) := (hb15.cell (p := ⟨w4.heap.size, 0, none⟩) (cell_lt l5_14)).trans l5_14
  have y2_15 := y2_14.below hb15 (Nat.le_refl _)
  have w0_0_15 := w0_0_14.below hb15 (Nat.le_refl _)
  have g0_0_15 := g0_0_14.below hb15 (Nat.le_refl _)
  have y14_15 := y14_14.below hb15 (Nat.le_refl _)
  obtain ⟨h0a0, h0c0, rfl⟩ := h0_0_15.isSlice
  go_wp2_with fail
  refine (eqI_same (Own.ints h0_0_15 hB0) w0_0_15).mono ?_
  rintro e w16 ⟨rfl, hb16⟩
  have q16 := q15.trans (hb16.mono q15.size)
  have z16 := hb16.size
  have b0_16 : w16.cell? ⟨w.heap.size, 0, none⟩ = some (.slice a0 g0.length c0) := (hb16.cell (p := ⟨w.heap.size, 0, none⟩) (cell_lt b0_15)).trans b0_15
  have l5_16 : w16.cell? ⟨w4.heap.size, 0, none⟩ = some (.slice xa4 g0.length xc4) := (hb16.cell (p := ⟨w4.heap.size, 0, none⟩) (cell_lt l5_15)).trans l5_15
  have y2_16 := y2_15.below hb16 (Nat.le_refl _)
  have w0_0_16 := w0_0_15.below hb16 (Nat.le_refl _)
  have g0_0_16 := g0_0_15.below hb16 (Nat.le_refl _)
  have y14_16 := y14_15.below hb16 (Nat.le_refl _)
  have h0_0_16 := h0_0_15.below hb16 (Nat.le_refl _)
  go_wp2_with fail
  refine (heldI_any (Own.ints g0_0_16 hB0) hN0).mono ?_
  rintro e w17 ⟨rfl, hb17⟩
  have q17 := q16.trans (hb17.mono q16.size)
  have z17 := hb17.size
  have b0_17 : w17.cell? ⟨w.heap.size, 0, none⟩ = some (.slice a0 g0.length c0) := (hb17.cell (p := ⟨w.heap.size, 0, none⟩) (cell_lt b0_16)).trans b0_16
  have l5_17 : w17.cell? ⟨w4.heap.size, 0, none⟩ = some (.slice xa4 g0.length xc4) := (hb17.cell (p := ⟨w4.heap.size, 0, none⟩) (cell_lt l5_16)).trans l5_16
  have y2_17 := y2_16.below hb17 (Nat.le_refl _)
  have w0_0_17 := w0_0_16.below hb17 (Nat.le_refl _)
  have g0_0_17 := g0_0_16.below hb17 (Nat.le_refl _)
  have y14_17 := y14_16.below hb17 (Nat.le_refl _)
  have h0_0_17 := h0_0_16.below hb17 (Nat.le_refl _)
  have hmn17 : ¬ (1 + (r0.length : Int)) < 0 := by omega
  go_wp2
  go_ret
  exact ⟨rfl, q17⟩
end Go.Proofs.YtfkdhlmigbkefaaDoor
