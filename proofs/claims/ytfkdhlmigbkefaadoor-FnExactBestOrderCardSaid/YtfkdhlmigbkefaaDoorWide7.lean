/- Widths: the program's search with what it remembers. -/
import Derived.Test.YtfkdhlmigbkefaaDoorWide6
import Derived.Maps.OwnSet
namespace Go.Proofs.YtfkdhlmigbkefaaDoor
open Go.RowKit Go.Maps
/-- How many entries a search lays at most, if f vertices are left. -/
def storesN : Nat → Nat
  | 0 => 1
  | f + 1 => 1 + (f + 1) * storesN f
theorem storesN_le {f : Nat} (h : f ≤ 10) : storesN f ≤ 9864101 := by
  match f, h with
  | 0, _ => decide
  | 1, _ => decide
  | 2, _ => decide
  | 3, _ => decide
  | 4, _ => decide
  | 5, _ => decide
  | 6, _ => decide
  | 7, _ => decide
  | 8, _ => decide
  | 9, _ => decide
  | 10, _ => decide
  | f + 11, h => omega
theorem leftL_len (n gone : Nat) : (leftL n gone).length ≤ n := by
  have := List.length_filter_le (fun v => !gone.testBit v) (List.range n)
  simpa [leftL] using this
/-- What is remembered is right. -/
def KnownM (a : List Nat) (n : Nat) (D : DataW Unit) : Prop := ∀ c : Nat, c < 2 ^ n → Maps.has D (.int .u32 (c : Int)) = true → D.atKey (.int .u32 (c : Int)) (.lit (.int .i64 0)) = .lit (.int .i64 (widthN a n c : Int))
theorem KnownM.put {a : List Nat} {n c : Nat} {D : DataW Unit} (h : KnownM a n D) (hD : IsMap D) : KnownM a n (D.put (.int .u32 (c : Int)) (.lit (.int .i64 (widthN a n c : Int)))) := fun c' hc hh => by
  by_cases e : c' = c
  · subst e; exact atKey_put_same hD (show WideAt.IsKeyLit (Lit.int .u32 (c' : Int)) from trivial) _ _
  · have hne : (Lit.int .u32 (c' : Int)) ≠ Lit.int .u32 (c : Int) := fun h => e (by injection h with _ h; omega)
    rw [has_put_other hne] at hh
    rw [atKey_put_other hne]
    exact h c' hc hh
theorem wf_u32 {c : Nat} (h : c < 4294967296) : (Lit.int .u32 (c : Int)).wf = true := by
  simp only [Lit.wf, IntKind.min, IntKind.max, IntKind.bits, IntKind.signed, Bool.and_eq_true, decide_eq_true_eq] <;> simp <;> omega
theorem keyVset : Keyed Tryd.prog 59 := int_keyed Tryd.underlying59
theorem zeroInt (w : World) : (zeroValue 3).run Tryd.prog w = .ok (.int .i64 0) w := by kernel_rfl
/-- The search's state: its box xb holds the neighbours and a map mb of what is known. -/
structure WS (w : World) (a : List Nat) (n ng nc xb mb cnt : Nat) (D : DataW Unit) : Prop where
  tab : Tab w
  nets : SlI (fun b => b ≠ mb ∧ b < w.heap.size) w .u32 (.slice (some ⟨ng, 0, none⟩) n nc) (natsI a)
  c0 : w.cell? ⟨xb, 0, none⟩ = some (.slice (some ⟨ng, 0, none⟩) n nc)
  c1 : w.cell? ⟨xb, 1, none⟩ = some (.map (some mb))
  ne : xb ≠ mb
  pos : 0 < mb
  map : w.ownsMap Tryd.prog 59 (plainElem Tryd.prog 3) mb cnt D
  known : KnownM a n D
theorem WS.below {w w' : World} {a : List Nat} {n ng nc xb mb cnt : Nat} {D : DataW Unit} (h : WS w a n ng nc xb mb cnt D) (hb : Below w.heap.size w w') : WS w' a n ng nc xb mb cnt D :=
  ⟨h.tab.below hb (Nat.le_refl _), (h.nets.below hb (Nat.le_refl _)).weak fun b hb' => ⟨hb'.1, Nat.lt_of_lt_of_le hb'.2 hb.size⟩, (hb.cell (cell_lt h.c0)).trans h.c0, (hb.cell (cell_lt h.c1)).trans h.c1, h.ne, h.pos,
    h.map.kept (row := none) ⟨hb.os, hb.tape, hb.output, hb.size, fun k hk _ => hb.block k hk⟩ (by simp), h.known⟩
theorem WS.put {w w' : World} {a : List Nat} {n ng nc xb mb cnt cnt' : Nat} {D D' : DataW Unit} (h : WS w a n ng nc xb mb cnt D) (hk : w.grownBy w' (some mb)) (hm : w'.ownsMap Tryd.prog 59 (plainElem Tryd.prog 3) mb cnt' D') (hK : KnownM a n D') : WS w' a n ng nc xb mb cnt' D' :=
  ⟨fun i hi => (World.cell?_of_block (a := ⟨0, i, none⟩) (hk.block 0 (by have := h.map.lt; omega) (by have := h.pos; simp; omega))).trans (h.tab i hi),
    (h.nets.keep fun b hb => hk.block b hb.2 (by have := hb.1; simpa using this)).weak fun b hb' => ⟨hb'.1, Nat.lt_of_lt_of_le hb'.2 hk.size⟩,
    (World.cell?_of_block (a := ⟨xb, 0, none⟩) (hk.block xb (cell_lt h.c0) (by have := h.ne; simpa using this))).trans h.c0,
    (World.cell?_of_block (a := ⟨xb, 1, none⟩) (hk.block xb (cell_lt h.c1) (by have := h.ne; simpa using this))).trans h.c1, h.ne, h.pos, hm, hK⟩
theorem KeptBut.ofBelow {w w' : World} {r : Option Nat} (hb : Below w.heap.size w w') : KeptBut w w' r := ⟨hb.os, hb.tape, hb.output, hb.size, fun k hk _ => hb.block k hk⟩
/-- What the search answers. -/
def AftP (a : List Nat) (n ng nc xb mb cnt top : Nat) (x : Nat) (w : World) (e : Ending) (w' : World) : Prop :=
  e = .returned (.int .i64 (x : Int)) ∧ (∃ cnt' D', WS w' a n ng nc xb mb cnt' D' ∧ cnt' ≤ cnt + top) ∧ KeptBut w w' (some mb)
set_option maxRecDepth 100000 in
set_option maxHeartbeats 4000000 in
theorem with_any {a : List Nat} {n ng nc xb mb cnt gone v : Nat} {D : DataW Unit} {w : World} (hI : WideI a n) (h10 : n ≤ 10) (hg : gone < 2 ^ n) (hv : v < n) (hw : WS w a n ng nc xb mb cnt D)
    (hrec : ∀ w' : World, WS w' a n ng nc xb mb cnt D → Calls Tryd.prog 34 #[.pointer (some ⟨xb, 0, none⟩), .int .u32 ((gone ||| bit v : Nat) : Int)] w' (AftP a n ng nc xb mb cnt (storesN (leftL n (gone ||| bit v)).length) (widthN a n (gone ||| bit v)) w')) :
    Calls Tryd.prog 63 #[.pointer (some ⟨xb, 0, none⟩), .int .u32 (gone : Int), .int .i64 (v : Int)] w (AftP a n ng nc xb mb cnt (storesN (leftL n (gone ||| bit v)).length) (costN a n gone v) w) := by
  have h16 := hI.le
  have hp := pow16_lt h16
  have hg32 : gone < 4294967296 := by omega
  have hor : bits BinOp.or IntKind.u32 (gone : Int) (bit v : Int) = ((gone ||| bit v : Nat) : Int) := u32_or_nat gone (bit v) hg32 (bit_lt (by omega))
  have hbe := behind_any hw.tab hI hw.nets hg hv
  have hbl : behindN a gone v < 65536 := Nat.lt_of_lt_of_le (behindN_lt hI) (Nat.le_trans (Nat.pow_le_pow_right (by omega) h16) (by decide))
  have hsz := fun W : World => size_any (behindN a gone v) W hbl
  have hone := fun W : World => one_any (v : Int) W (by omega) (by omega)
  rw [Int.toNat_natCast] at hone
  have hpop : (bitsI (behindN a gone v)).length = popN (behindN a gone v) := by simp [popN, bitsI]
  rw [hpop] at hsz
  have hc16 : popN (behindN a gone v) ≤ 16 := by have := popN_pow (by omega) (behindN_lt (gone := gone) (v := v) hI); omega
  have hw16 := widthN_le a n (gone ||| bit v)
  have HC := Lib.hid (show costN a n gone v = max (popN (behindN a gone v)) (widthN a n (gone ||| bit v)) from rfl)
  have HREC := Lib.hid hrec
  have c0 := hw.c0
  clear hpop hrec
  generalize storesN (leftL n (gone ||| bit v)).length = top at *
  generalize widthN a n (gone ||| bit v) = q at *
  generalize gone ||| bit v = nx at *
  generalize behindN a gone v = m at *
  generalize popN m = p at *
  go_enter Tryd.func63, Tryd.ntmps63
  go_wp2_with fail
  refine hbe.mono ?_
  rintro e w1 ⟨rfl, hb1⟩
  have hw1 := hw.below hb1
  clear hbe
  go_wp2_with fail
  refine (hsz _).mono ?_
  rintro e w2 ⟨rfl, hd2⟩
  have hb2 := hb1.trans ((hd2.below w1.heap.size).mono hb1.size)
  have hw2 := hw.below hb2
  clear hsz hw1 hd2 hb1
  go_wp2_with (go_at_call 68; refine (hone _).mono ?_; rintro e w' ⟨rfl, rfl⟩)
  refine (HREC.out _ hw2).mono ?_
  rintro e w3 ⟨rfl, hw3, hk3⟩
  have hk := (KeptBut.ofBelow (r := some mb) hb2).trans hk3
  clear hone HREC hw2 hk3 c0
  by_cases hpq : p < q
  · have hd : decide ((p : Int) < (q : Int)) = true := by simpa using hpq
    have HE := Lib.hid (show costN a n gone v = q by rw [HC.out]; omega)
    go_wp2
    go_ret
    exact ⟨(by rw [HE.out]; rfl), hw3, hk⟩
  · have hd : decide ((p : Int) < (q : Int)) = false := by simpa using hpq
    have HE := Lib.hid (show costN a n gone v = p by rw [HC.out]; omega)
    go_wp2
    go_ret
    exact ⟨(by rw [HE.out]; rfl), hw3, hk⟩
set_option maxRecDepth 100000 in
set_option maxHeartbeats 8000000 in
theorem after_any {a : List Nat} {n ng nc xb mb : Nat} (hI : WideI a n) (h10 : n ≤ 10) : ∀ (f gone cnt : Nat) (D : DataW Unit) (w : World), (leftL n gone).length = f → gone < 2 ^ n → WS w a n ng nc xb mb cnt D → cnt + storesN f ≤ 1000000000 →
    Calls Tryd.prog 34 #[.pointer (some ⟨xb, 0, none⟩), .int .u32 (gone : Int)] w (AftP a n ng nc xb mb cnt (storesN f) (widthN a n gone) w) := by
  intro f
  induction f using Nat.strongRecOn with
  | ind f ih =>
  intro gone cnt D w hf hg hw hcnt
  have HIH := Lib.hid ih
  clear ih
  have h16 := hI.le
  have hp := pow16_lt h16
  have hg32 : gone < 4294967296 := by omega
  have hf32 : firstN n < 4294967296 := by have := firstN_lt h16; omega
  have hall := fun W : World => allOf_any (some ⟨ng, 0, none⟩) n nc W h16
  have c0 := hw.c0
  have c1 := hw.c1
  have hkey := keyOf_int_mk Tryd.underlying59 (wf_u32 hg32)
  have hln := left_nil (gone := gone) h16 hg
  by_cases he : gone = firstN n
  · have hz : widthN a n gone = 0 := widthN_all (hln.2 he)
    rw [hz]
    have hb : ((gone : Int) == (firstN n : Int)) = true := by rw [beq_iff_eq, he]
    have hb2 : (gone == firstN n) = true := by rw [beq_iff_eq]; exact he
    clear hz hln he
    go_enter Tryd.func34, Tryd.ntmps34
    go_wp2_with (go_at_call 61; refine (hall _).mono ?_; rintro e w' ⟨rfl, rfl⟩)
    go_ret
    exact ⟨rfl, ⟨cnt, D, hw, by omega⟩, KeptBut.ofBelow (Below.refl _ _)⟩
  have hb : ((gone : Int) == (firstN n : Int)) = false := by
    rw [beq_eq_false_iff_ne]; omega
  have hb2 : (gone == firstN n) = false := by rw [beq_eq_false_iff_ne]; exact he
  have HL := Lib.hid (fun h => he (hln.1 h))
  clear hln he
  have hmap := hw.map
  cases hh : Maps.has D (.int .u32 (gone : Int))
  case true =>
    have hkn := hw.known gone hg hh
    have HKN := Lib.hid hkn
    clear hkn
    go_enter Tryd.func34, Tryd.ntmps34
    go_wp2_with (first | (go_at_call 61; refine (hall _).mono ?_; rintro e w' ⟨rfl, rfl⟩) | (at_lookup; refine wpList_lookup_own_ok_int _ rfl _ _ 81 rfl 59 3 .i64 keyVset Tryd.underlying81 Tryd.underlying3 (zeroInt _) mb cnt D rfl hmap _ _ rfl hkey ?_; intro c hat hwc; rw [hh]; rw [HKN.out] at hat; injection hat with hat; injection hat with _ hat; subst hat))
    go_ret
    exact ⟨rfl, ⟨cnt, D, hw, by omega⟩, KeptBut.ofBelow (Below.refl _ _)⟩
  have han : bits BinOp.andNot IntKind.u32 (firstN n : Int) (gone : Int) = (andN (firstN n) gone : Int) := u32_andNot_nat _ _ hf32 hg32
  have hli := list_any (andN (firstN n) gone) w hw.tab (Nat.lt_of_le_of_lt (andN_le _ _) hf32)
  have hlb := leftL_bits h16 hg32
  have hll : (bitsI (andN (firstN n) gone)).length = f := by rw [hlb, natsI_len, hf]
  have hfn : f ≤ 10 := by have := leftL_len n gone; omega
  have HLB := Lib.hid hlb; have HLL := Lib.hid hll; have HF := Lib.hid hf
  have HST := Lib.hid (widthN_step (a := a) HL.out)
  have hf0 : f ≠ 0 := fun e => HL.out (List.length_eq_zero_iff.1 (by rw [HF.out, e]))
  obtain ⟨f', rfl⟩ : ∃ f', f = f' + 1 := ⟨f - 1, by omega⟩
  have hst : storesN (f' + 1) = 1 + (f' + 1) * storesN f' := rfl
  have HSN := Lib.hid hst
  clear hlb hll hf hst hf0
  obtain ⟨top, htop⟩ : ∃ top, top = storesN f' := ⟨_, rfl⟩
  have HTOP := Lib.hid htop
  have hcnt2 : cnt + (1 + (f' + 1) * top) ≤ 1000000000 := by rw [htop]; rw [HSN.out] at hcnt; exact hcnt
  have HCNT := Lib.hid hcnt2
  clear hcnt2 htop hcnt
  go_enter Tryd.func34, Tryd.ntmps34
  go_wp2_with (first | (go_at_call 61; refine (hall _).mono ?_; rintro e w' ⟨rfl, rfl⟩) | (at_lookup; refine wpList_lookup_own_ok_int _ rfl _ _ 81 rfl 59 3 .i64 keyVset Tryd.underlying81 Tryd.underlying3 (zeroInt _) mb cnt D rfl hmap _ _ rfl hkey ?_; intro c hat hwc; rw [hh]; clear hat))
  refine hli.mono ?_
  rintro e w2 ⟨u, rfl, hu, hb2⟩
  have hui := Own.ints (xs := bitsI (andN (firstN n) gone)) hu (by rw [HLL.out]; omega)
  have hub := hu.ge
  rw [HLB.out] at hui
  rw [HLL.out] at hu
  obtain ⟨ua, uc, rfl⟩ := hu.isSlice
  obtain ⟨ub, uo, ucap, hue, huc⟩ := hui.at_
  rw [natsI_len, HF.out] at hue
  have HUC := Lib.hid huc
  have hw2 := hw.below hb2
  have hk2 := KeptBut.ofBelow (r := some mb) hb2
  have hmw := hmap.lt
  have HUB := Lib.hid hub
  clear hu hui hli huc hmap hh hub hb hb2 c0 c1
  go_wp2
  go_loopw [7, 37] (fun b i wr => ∃ (k cnt' : Nat) (D' : DataW Unit), k ≤ f' + 1 ∧ i = .int .i64 k ∧ b = .int .i64 (((((leftL n gone).take k).map (costN a n gone)).foldl min 16 : Nat) : Int) ∧ WS wr a n ng nc xb mb cnt' D' ∧ cnt' ≤ cnt + k * top ∧ KeptBut w2 wr (some mb)) (fun _ i _ => (f' + 1) - (intOf i).toNat)
  case atStart => exact ⟨0, cnt, D, Nat.zero_le _, rfl, rfl, hw2, by omega, KeptBut.ofBelow (Below.refl _ _)⟩
  case round =>
    clear hw hw2
    obtain ⟨k, cnt', D', hk, rfl, rfl, hw, hcl, hkr⟩ := hrel
    have hkw := hk2.trans hkr
    have hbest := foldMin_le (((leftL n gone).take k).map (costN a n gone)) 16
    by_cases hlt : k < f' + 1
    case neg =>
      obtain rfl : k = f' + 1 := by omega
      have htk : (leftL n gone).take (f' + 1) = leftL n gone := List.take_of_length_le (by rw [HF.out]; exact Nat.le_refl _)
      rw [htk, ← HST.out]
      rw [htk, ← HST.out] at hbest
      have hmap := hw.map
      have c0 := hw.c0
      have c1 := hw.c1
      have hKp := hw.known.put (c := gone) hmap.isMap
      have HKP := Lib.hid hKp
      have hce : cnt' + 1 ≤ cnt + storesN (f' + 1) := by rw [HSN.out, ← HTOP.out]; omega
      have hcm : cnt' < maxLen := by
        have := HCNT.out
        unfold maxLen; omega
      have HCE := Lib.hid hce
      clear htk hKp hue hce
      go_wp2_with (at_mapUpdate; refine wpList_mapUpdate_own _ rfl _ _ _ 81 rfl 59 3 keyVset Tryd.underlying81 _ mb cnt' D' rfl hmap hcm _ _ _ rfl rfl hkey _ [] (plainElem_int Tryd.underlying3 (WalkArith.wf_i64 (by omega))) ?_; intro w3 hown3 hgrow3)
      go_ret
      exact ⟨rfl, ⟨cnt' + 1, _, hw.put hgrow3 hown3 HKP.out, HCE.out⟩, hkw.trans (KeptBut.of_grown hgrow3)⟩
    have hc := HUC.out k (by rw [natsI_len, HF.out]; exact hlt)
    rw [natsI_get] at hc
    have hue2 := hue (by omega)
    simp only [Value.slice.injEq] at hue2
    obtain ⟨rfl, -, rfl⟩ := hue2
    have hlk : k < (leftL n gone).length := by rw [HF.out]; exact hlt
    obtain ⟨hxn, hxg⟩ := mem_leftL.1 (List.getElem_mem hlk)
    have htk : ((((leftL n gone).take (k + 1)).map (costN a n gone)).foldl min 16) = min ((((leftL n gone).take k).map (costN a n gone)).foldl min 16) (costN a n gone (leftL n gone)[k]) := by
      rw [List.take_succ_eq_append_getElem hlk, List.map_append, List.foldl_append]; rfl
    have hnx := leftL_next hxn hxg
    generalize (leftL n gone)[k] = x at hc hxn hxg htk hnx
    have hfx : (leftL n (gone ||| bit x)).length = f' := by have := HF.out; omega
    have hc16 := costN_le (gone := gone) (v := x) hI
    have hubk : ub ≠ mb := by
      have := HUB.out ub rfl; omega
    have hcw := (World.cell?_of_block (a := ⟨ub, uo + k, none⟩) (hkr.2.2.2.2 ub (cell_lt hc) (by simpa using hubk))).trans hc
    have hmul : cnt' + top ≤ cnt + (k + 1) * top := by rw [Nat.add_mul, Nat.one_mul]; omega
    have hcx : cnt' + storesN f' ≤ 1000000000 := by
      have h1 := HCNT.out
      have h2 : (k + 1) * top ≤ (f' + 1) * top := Nat.mul_le_mul_right _ (by omega)
      rw [← HTOP.out]; omega
    have hrec := fun (w' : World) (h : WS w' a n ng nc xb mb cnt' D') => HIH.out f' (by omega) (gone ||| bit x) cnt' D' w' hfx (hI.or_lt hg hxn) h hcx
    have hwi := with_any hI h10 hg hxn hw (by rw [hfx]; exact hrec)
    rw [hfx, ← HTOP.out] at hwi
    have HMUL := Lib.hid hmul; have HTK := Lib.hid htk
    generalize costN a n gone x = c at *
    generalize (((leftL n gone).take k).map (costN a n gone)).foldl min 16 = b at *
    unfold AftP at hwi
    clear hnx hfx hrec hmul htk hxg hubk hlk hcx hc hue
    go_wp2_with fail
    refine hwi.mono ?_
    rintro e w3 ⟨rfl, ⟨cnt3, D3, hw3, hcl3⟩, hk3⟩
    have HC3 := Lib.hid (show cnt3 ≤ cnt + (k + 1) * top by have := HMUL.out; omega)
    clear hwi
    by_cases hcb : c < b
    · have hd : decide ((c : Int) < (b : Int)) = true := by simpa using hcb
      have HE := Lib.hid (show ((((leftL n gone).take (k + 1)).map (costN a n gone)).foldl min 16) = c by rw [HTK.out]; omega)
      go_wp2
      go_roundw
      case rel => exact ⟨k + 1, cnt3, D3, by omega, by go_num, by rw [HE.out], hw3, HC3.out, hkr.trans hk3⟩
      case measure => simp [intOf]; omega
    · have hd : decide ((c : Int) < (b : Int)) = false := by simpa using hcb
      have HE := Lib.hid (show ((((leftL n gone).take (k + 1)).map (costN a n gone)).foldl min 16) = b by rw [HTK.out]; omega)
      go_wp2
      go_roundw
      case rel => exact ⟨k + 1, cnt3, D3, by omega, by go_num, by rw [HE.out], hw3, HC3.out, hkr.trans hk3⟩
      case measure => simp [intOf]; omega
end Go.Proofs.YtfkdhlmigbkefaaDoor
