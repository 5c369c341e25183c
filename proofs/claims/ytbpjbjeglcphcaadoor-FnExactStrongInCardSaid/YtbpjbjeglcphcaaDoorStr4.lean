/- StrongIn of the program: the search through the modules. -/
import Derived.Test.YtbpjbjeglcphcaaDoorStr3
namespace Go.Proofs.YtbpjbjeglcphcaaDoor
open Go.RowKit
/-- Two sets lap, by words. -/
def lapW (s m : Nat) : Bool := decide (s &&& m ≠ 0) && (decide (andN s m ≠ 0) && decide (andN m s ≠ 0))
def IdxL (b : Bool) (w : World) (e : Ending) (w' : World) : Prop := ∃ r : Int, e = .returned (.int .i64 r) ∧ (b = true → 0 ≤ r) ∧ (b = false → r < 0) ∧ Drawn w w'
set_option maxHeartbeats 1000000 in
theorem strClo_any {sb s m : Nat} {w : World} (hs : s < 4294967296) (hm : m < 4294967296) (hc : w.cell? ⟨sb, 0, none⟩ = some (.int .u32 (s : Int))) :
    Calls Tryd.prog 22 #[.int .u32 (m : Int), .pointer (some ⟨sb, 0, none⟩)] w fun e w' => e = .returned (.bool (lapW s m)) ∧ Drawn w w' := by
  have h1 := u32_and_nat s m hs hm
  have h2 : bits BinOp.andNot IntKind.u32 (s : Int) (m : Int) = (andN s m : Int) := u32_andNot_nat s m hs hm
  have h3 : bits BinOp.andNot IntKind.u32 (m : Int) (s : Int) = (andN m s : Int) := u32_andNot_nat m s hm hs
  have HL := Lib.hid (show lapW s m = (decide (s &&& m ≠ 0) && (decide (andN s m ≠ 0) && decide (andN m s ≠ 0))) from rfl)
  generalize s &&& m = x at *
  generalize andN s m = y at *
  generalize andN m s = z at *
  by_cases hx : x = 0
  · have hxn : ((x : Int) != 0) = false := by simp [hx]
    have HR := Lib.hid (show lapW s m = false by rw [HL.out]; simp [hx])
    clear hx HL
    go_enter Tryd.func22, Tryd.ntmps22
    go_wp2
    go_ret
    exact ⟨ret_bool HR.out.symm, Drawn.refl _⟩
  have hxn : ((x : Int) != 0) = true := by rw [bne_iff_ne]; omega
  have hxn2 : (x != 0) = true := by rw [bne_iff_ne]; exact hx
  by_cases hy : y = 0
  · have hyn : ((y : Int) != 0) = false := by simp [hy]
    have HR := Lib.hid (show lapW s m = false by rw [HL.out]; simp [hy])
    clear hy HL
    go_enter Tryd.func22, Tryd.ntmps22
    go_wp2
    go_ret
    exact ⟨ret_bool HR.out.symm, Drawn.refl _⟩
  have hyn : ((y : Int) != 0) = true := by rw [bne_iff_ne]; omega
  have hyn2 : (y != 0) = true := by rw [bne_iff_ne]; exact hy
  by_cases hz : z = 0
  · have hzn : ((z : Int) != 0) = false := by simp [hz]
    have HR := Lib.hid (show lapW s m = false by rw [HL.out]; simp [hz])
    clear hz HL
    go_enter Tryd.func22, Tryd.ntmps22
    go_wp2
    go_ret
    exact ⟨ret_bool HR.out.symm, Drawn.refl _⟩
  have hzn : ((z : Int) != 0) = true := by rw [bne_iff_ne]; omega
  have hzn2 : (z != 0) = true := by rw [bne_iff_ne]; exact hz
  have HR := Lib.hid (show lapW s m = true by rw [HL.out]; simp [hx, hy, hz])
  clear HL
  go_enter Tryd.func22, Tryd.ntmps22
  go_wp2
  go_ret
  exact ⟨ret_bool HR.out.symm, Drawn.refl _⟩
set_option maxHeartbeats 1000000 in
theorem strIndex_any {S : Nat → Prop} {u : Value} {l : List Nat} {sb s : Nat} {w : World} (hs : s < 4294967296) (hl : ∀ m ∈ l, m < 4294967296) (hb : w.cell? ⟨sb, 0, none⟩ = some (.int .u32 (s : Int))) (hu : SlI S w .u32 u (natsI l)) :
    Calls Tryd.prog 38 #[u, .func (Fn.func 22) #[] #[.pointer (some ⟨sb, 0, none⟩)]] w (IdxL (l.any fun x => lapW s x) w) := by
  obtain ⟨ub, uo, ucap, hue, huc⟩ := hu.at_
  have hul := hu.len
  obtain ⟨ua, uc, rfl⟩ := hu.slice
  rw [natsI_len] at *
  go_enter Tryd.func38, Tryd.ntmps38
  go_wp2
  go_loopw [8] (fun i wr => ∃ k : Nat, k ≤ l.length ∧ i = .int .i64 k ∧ RowKit.Hid (∀ x ∈ l.take k, ¬ (lapW s x) = true) ∧ Drawn w wr) (fun i _ => l.length - (intOf i).toNat)
  case atStart => exact ⟨0, Nat.zero_le _, rfl, Lib.hid (fun x h => by simp at h), Drawn.refl _⟩
  case round =>
    obtain ⟨k, hk, rfl, HN, hq⟩ := hrel
    by_cases hlt : k < l.length
    · have hue := hue (by omega)
      simp only [Value.slice.injEq, true_and] at hue
      obtain ⟨rfl, rfl⟩ := hue
      have hcell := (hq.cell _).trans (huc k (by rw [natsI_len]; exact hlt))
      rw [natsI_get (by rw [natsI_len]; exact hlt)] at hcell
      have hcl := strClo_any (m := l[k]) (w := wr) hs (hl _ (List.getElem_mem hlt)) ((hq.cell _).trans hb)
      have htk : l.take (k + 1) = l.take k ++ [l[k]] := List.take_succ_eq_append_getElem hlt
      have hmem : l[k] ∈ l := List.getElem_mem hlt
      clear huc
      cases he : lapW s l[k] with
      | true =>
        have HA := Lib.hid (show (l.any fun x => lapW s x) = true from List.any_eq_true.2 ⟨l[k], hmem, he⟩)
        rw [he] at hcl
        clear he htk hmem
        generalize l[k] = x at *
        go_wp2_with fail
        refine hcl.mono ?_
        rintro e w' ⟨rfl, hd'⟩
        go_wp2
        go_ret
        exact ⟨(k : Int), rfl, fun _ => by omega, (fun h => by rw [HA.out] at h; cases h), hq.trans hd'⟩
      | false =>
        have HA := Lib.hid (show ∀ x ∈ l.take (k + 1), ¬ (lapW s x) = true from fun x hx => by
          rw [htk, List.mem_append, List.mem_singleton] at hx
          rcases hx with hx | rfl
          · exact HN.out x hx
          · rw [he]; simp)
        rw [he] at hcl
        clear he htk hmem
        generalize l[k] = x at *
        go_wp2_with fail
        refine hcl.mono ?_
        rintro e w' ⟨rfl, hd'⟩
        go_wp2
        go_roundw
        case rel => exact ⟨k + 1, by omega, by go_num, HA, hq.trans hd'⟩
        case measure => simp [intOf]; omega
    · have HA := Lib.hid (show (l.any fun x => lapW s x) = false from List.any_eq_false.2 fun x hx => HN.out x (by rw [List.take_of_length_le (by omega)]; exact hx))
      go_wp2
      go_ret
      exact ⟨-1, rfl, (fun h => by rw [HA.out] at h; cases h), fun _ => by omega, hq⟩
theorem strContains_any {S : Nat → Prop} {u : Value} {l : List Nat} {sb s : Nat} {w : World} (hs : s < 4294967296) (hl : ∀ m ∈ l, m < 4294967296) (hb : w.cell? ⟨sb, 0, none⟩ = some (.int .u32 (s : Int))) (hu : SlI S w .u32 u (natsI l)) :
    Calls Tryd.prog 19 #[u, .func (Fn.func 22) #[] #[.pointer (some ⟨sb, 0, none⟩)]] w fun e w' => e = .returned (.bool (l.any fun x => lapW s x)) ∧ Drawn w w' := by
  have hcl := strIndex_any hs hl hb hu
  generalize (l.any fun x => lapW s x) = bb at *
  go_enter Tryd.func19, Tryd.ntmps19
  go_wp2_with fail
  refine hcl.mono ?_
  rintro e w1 ⟨r, rfl, hr1, hr2, hd⟩
  have hbb : decide ((0 : Int) ≤ r) = bb := by
    cases bb
    · have := hr2 rfl; exact decide_eq_false (by omega)
    · exact decide_eq_true (hr1 rfl)
  go_wp2
  go_ret
  exact ⟨by first | rfl | exact ret_bool hbb, hd⟩
theorem nz_bit {x : Nat} : x ≠ 0 ↔ ∃ i, x.testBit i = true := by
  constructor
  · exact fun h => Nat.exists_testBit_of_ne_zero h
  · rintro ⟨i, hi⟩ e
    rw [e] at hi; simp at hi
theorem andN_ne {a b : Nat} (ha : a < 4294967296) (hb : b < 4294967296) : andN a b ≠ 0 ↔ ∃ x ∈ bitsI a, ¬ x ∈ bitsI b := by
  rw [nz_bit]
  constructor
  · rintro ⟨i, hi⟩
    rw [testBit_andN ha hb, Bool.and_eq_true, Bool.not_eq_true'] at hi
    exact ⟨(i : Int), (mem_bitsI ha).2 ⟨by omega, by simpa using hi.1⟩, fun h => by have := ((mem_bitsI hb).1 h).2; simp at this; rw [this] at hi; cases hi.2⟩
  · rintro ⟨x, h1, h2⟩
    obtain ⟨h3, h4⟩ := (mem_bitsI ha).1 h1
    refine ⟨x.toNat, ?_⟩
    rw [testBit_andN ha hb, h4, Bool.true_and, Bool.not_eq_true']
    cases h : b.testBit x.toNat with
    | false => rfl
    | true => exact absurd ((mem_bitsI hb).2 ⟨h3, h⟩) h2
theorem and_ne {a b : Nat} (ha : a < 4294967296) (hb : b < 4294967296) : a &&& b ≠ 0 ↔ ∃ x ∈ bitsI b, x ∈ bitsI a := by
  rw [nz_bit]
  constructor
  · rintro ⟨i, hi⟩
    rw [Nat.testBit_and, Bool.and_eq_true] at hi
    exact ⟨(i : Int), (mem_bitsI hb).2 ⟨by omega, by simpa using hi.2⟩, (mem_bitsI ha).2 ⟨by omega, by simpa using hi.1⟩⟩
  · rintro ⟨x, h1, h2⟩
    refine ⟨x.toNat, ?_⟩
    rw [Nat.testBit_and, ((mem_bitsI ha).1 h2).2, ((mem_bitsI hb).1 h1).2]; rfl
theorem cntIn_comm {a b : Nat} (ha : a < 4294967296) (hb : b < 4294967296) : cntIn (bitsI a) (bitsI b) = cntIn (bitsI b) (bitsI a) := by
  unfold cntIn
  congr 1
  refine sorted_ext ((bitsI_sorted a).filter _) ((bitsI_sorted b).filter _) fun x => ?_
  simp only [List.mem_filter, decide_eq_true_eq]
  exact And.comm
/-- Lapping, by lists and by words. -/
theorem laps_word {m s : Nat} (hm : m < 4294967296) (hs : s < 4294967296) : lapsB (bitsI m) (bitsI s) = lapW s m := by
  unfold lapsB lapW
  have e1 : decide (0 < cntIn (bitsI m) (bitsI s)) = decide (s &&& m ≠ 0) := by rw [decide_eq_decide, cntIn_pos, and_ne hs hm]
  have e2 : decide (cntIn (bitsI m) (bitsI s) < (bitsI m).length) = decide (andN m s ≠ 0) := by rw [decide_eq_decide, cntIn_lt, andN_ne hm hs]
  have e3 : decide (cntIn (bitsI m) (bitsI s) < (bitsI s).length) = decide (andN s m ≠ 0) := by rw [decide_eq_decide, cntIn_comm hm hs, cntIn_lt, andN_ne hs hm]
  rw [e1, e2, e3, Bool.and_comm (decide (andN m s ≠ 0))]
set_option maxRecDepth 100000 in
set_option maxHeartbeats 4000000 in
theorem implStrongIn_any {S S' : Nat → Prop} {v u : Value} {g : List (List Int)} {s : List Int} {w : World} (ht : Tab w) (hv : SlR S w v g) (hu : SlI S' w .i64 u s) :
    Calls Tryd.prog 8 #[.agg #[v], u] w fun e w' => e = .returned (.bool (strongB g s)) ∧ Below w.heap.size w w' := by
  obtain ⟨va, vc, rfl⟩ := hv.slice
  obtain ⟨ua, uc, rfl⟩ := hu.slice
  have hb : Below w.heap.size w (w.alloc (.cells #[.slice va g.length vc] 28)) := (Below.refl _ _).alloc (Nat.le_refl _) _
  have c0 : (w.alloc (.cells #[.slice va g.length vc] 28)).cell? ⟨w.heap.size, 0, none⟩ = some (.slice va g.length vc) := by simp [go_sem]
  have hsm := isSmallD_any (hv.below hb (Nat.le_refl _))
  have hmi := fun (W : World) (h : Below w.heap.size w W) => implModuleIn_any _ _ g s W (ht.below h (Nat.le_refl _)) (hv.below h (Nat.le_refl _)) (hu.below h (Nat.le_refl _))
  have hul := hu.len
  cases hd : smallD g with
  | false =>
    have HR := Lib.hid (strong_big (s := s) (show (gokB g && decide (g.length ≤ 8)) = false from hd))
    rw [hd] at hsm
    clear hd
    go_enter Tryd.func8, Tryd.ntmps8
    go_wp2_with fail
    refine hsm.mono ?_
    rintro e w1 ⟨rfl, hb1⟩
    go_wp2
    go_ret
    exact ⟨ret_bool HR.out.symm, hb.trans (hb1.mono hb.size)⟩
  | true =>
    have HSM := Lib.hid (show (gokB g && decide (g.length ≤ 8)) = true from hd)
    rw [hd] at hsm
    clear hd
    go_enter Tryd.func8, Tryd.ntmps8
    go_wp2_with fail
    refine hsm.mono ?_
    rintro e w1 ⟨rfl, hb1⟩
    have hq1 := hb.trans (hb1.mono hb.size)
    have c1 := (hb1.cell (cell_lt c0)).trans c0
    have hmi1 := hmi _ hq1
    clear hsm hmi c0
    cases hm : modB g s with
    | false =>
      have HR := Lib.hid (strong_none hm)
      rw [hm] at hmi1
      clear hm
      go_wp2_with fail
      refine hmi1.mono ?_
      rintro e w2 ⟨rfl, hb2⟩
      go_wp2
      go_ret
      exact ⟨ret_bool HR.out.symm, hq1.trans (hb2.mono hq1.size)⟩
    | true =>
      have HM := Lib.hid hm
      rw [hm] at hmi1
      clear hm
      go_wp2_with fail
      refine hmi1.mono ?_
      rintro e w2 ⟨rfl, hb2⟩
      have hq2 := hq1.trans (hb2.mono hq1.size)
      have c2 := (hb2.cell (cell_lt c1)).trans c1
      have hgk : GOk g := gokB_iff.1 (by have := HSM.out; simp at this; exact this.1)
      have h8 : g.length ≤ 8 := by have := HSM.out; simp at this; exact this.2
      have hmb := HM.out
      unfold modB at hmb
      simp only [Bool.and_eq_true, decide_eq_true_eq] at hmb
      obtain ⟨⟨h1, h2⟩, h3⟩ := hmb
      have hgr : gokB g = true ∧ riseB s g.length = true := by simpa [setOkB] using h1
      obtain ⟨k1, k2, k3, k4⟩ := modM_mask hgk (riseB_iff.1 hgr.2) h2 h3
      have hs2 : ∀ x ∈ s, 0 ≤ x ∧ x < 32 := fun x hx => by have := rise_ge (riseB_iff.1 hgr.2) x hx; omega
      have hmk := maskOf_any _ _ w2 (hu.below hq2 (Nat.le_refl _)) hs2
      have hs32 := maskL_lt32 hs2
      have HK := Lib.hid k4
      clear k1 k2 k3 k4 h1 h2 h3 hgr hmi1
      generalize maskL s = sm at *
      go_wp2_with fail
      refine hmk.mono ?_
      rintro e w2' ⟨rfl, rfl⟩
      have hbn : Below w2.heap.size w2 (w2.alloc (.cells #[.int .u32 (sm : Int)] 39)) := (Below.refl _ _).alloc (Nat.le_refl _) _
      have c3 := (hbn.cell (cell_lt c2)).trans c2
      have s3 : (w2.alloc (.cells #[.int .u32 (sm : Int)] 39)).cell? ⟨w2.heap.size, 0, none⟩ = some (.int .u32 (sm : Int)) := by simp [go_sem]
      have hq3 := hq2.trans (hbn.mono hq2.size)
      have hne := netsOf_any _ g _ (hv.below hq3 (Nat.le_refl _)) hgk
      go_wp2_with fail
      refine hne.mono ?_
      rintro e w4 ⟨nv, rfl, hno, hb4⟩
      have hq4 := hq3.trans (hb4.mono hq3.size)
      have s4 := (hb4.cell (cell_lt s3)).trans s3
      have hmo := implModulesOf_any (ht.below hq4 (Nat.le_refl _)) hgk h8 (Own.ints (xs := natsI (netsL g)) hno (by omega))
      obtain ⟨na, nc, rfl⟩ := hno.isSlice
      clear hne hno
      go_wp2_with fail
      refine hmo.mono ?_
      rintro e w5 ⟨mv, ms, rfl, hmo5, HML, hb5⟩
      have hq5 := hq4.trans (hb5.mono hq4.size)
      have s5 := (hb5.cell (cell_lt s4)).trans s4
      have hmlt : ∀ m ∈ ms, m < 65536 := fun m hm => by
        have := ((HML.2 m).1 hm).2.1
        have h2 : 2 ^ g.length ≤ 256 := Nat.le_trans (Nat.pow_le_pow_right (by omega) h8) (by decide)
        omega
      have hml : ms.length ≤ 256 := by
        have := HML.1
        have h2 : 2 ^ g.length ≤ 256 := Nat.le_trans (Nat.pow_le_pow_right (by omega) h8) (by decide)
        omega
      have hcf := strContains_any (l := ms) hs32 (fun m hm => by have := hmlt m hm; omega) s5 (Own.ints (xs := natsI ms) hmo5 (by omega))
      have HR := Lib.hid (show strongB g s = !(ms.any fun x => lapW sm x) by
        rw [strong_of HSM.out HML HM.out]
        congr 1
        have : ∀ m ∈ ms, lapsB (bitsI m) s = lapW sm m := fun m hm => by
          have := hmlt m hm
          rw [← HK.out]; exact laps_word (by omega) hs32
        rw [Bool.eq_iff_iff, List.any_eq_true, List.any_eq_true]
        exact ⟨fun ⟨m, h1, h2⟩ => ⟨m, h1, by rw [← this m h1]; exact h2⟩, fun ⟨m, h1, h2⟩ => ⟨m, h1, by rw [this m h1]; exact h2⟩⟩)
      obtain ⟨ma, mc, rfl⟩ := hmo5.isSlice
      clear hmo hmo5 HML hml hmlt
      generalize (ms.any fun x => lapW sm x) = bb at *
      go_wp2_with fail
      refine hcf.mono ?_
      rintro e w6 ⟨rfl, hd6⟩
      go_wp2
      go_ret
      exact ⟨ret_bool HR.out.symm, hq5.trans (hd6.below _)⟩
end Go.Proofs.YtbpjbjeglcphcaaDoor
