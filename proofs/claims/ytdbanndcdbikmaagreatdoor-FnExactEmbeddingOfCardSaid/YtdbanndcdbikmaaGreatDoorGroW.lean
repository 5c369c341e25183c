/- The program's growthOf. -/
import Derived.Test.YtdbanndcdbikmaaGreatDoorEmbY
import Derived.Test.YtdbanndcdbikmaaGreatDoorFac
import Derived.Test.YtdbanndcdbikmaaGreatDoorLoopL
namespace Go.Proofs.YtdbanndcdbikmaaGreatDoor
open Go.RowKit
def flatE (l : List NP) : List Int := l.flatMap fun p => [(p.1 : Int), (p.2 : Int)]
theorem flatE_len (l : List NP) : (flatE l).length = 2 * l.length := by
  induction l with
  | nil => rfl
  | cons p l ih => unfold flatE at *; rw [List.flatMap_cons, List.length_append, ih]; simp; omega
theorem flatE_app (l m : List NP) : flatE (l ++ m) = flatE l ++ flatE m := by unfold flatE; simp
theorem flatE_one (p : NP) : flatE [p] = [(p.1 : Int), (p.2 : Int)] := by simp [flatE]
theorem flatE_get {l : List NP} {i : Nat} (h : i < l.length) : (flatE l)[2 * i]? = some (l[i].1 : Int) ∧ (flatE l)[2 * i + 1]? = some (l[i].2 : Int) := by
  induction l generalizing i with
  | nil => simp at h
  | cons p l ih =>
    have e : flatE (p :: l) = (p.1 : Int) :: (p.2 : Int) :: flatE l := by simp [flatE]
    rw [e]
    cases i with
    | zero => simp
    | succ i =>
      have := ih (i := i) (by simpa using h)
      rw [show 2 * (i + 1) = 2 * i + 1 + 1 by omega]
      simpa using this
theorem edgeL_len {n : Nat} {E : List NP} (h : EdgeL n E) : E.length ≤ 256 := by
  have hn : (E.map fun e => e.1 * 16 + e.2).Nodup := by
    rw [List.Nodup, List.pairwise_map]
    refine List.Pairwise.imp_of_mem ?_ h.nd
    intro a b ha hb hab e
    have h1 := h.lt a ha
    have h2 := h.lt b hb
    have h3 := h.le
    exact hab (Prod.ext (by omega) (by omega))
  have := nodup_lenA hn (E := List.range 256) (fun x hx => by
    obtain ⟨e, he, rfl⟩ := List.mem_map.1 hx
    have h1 := h.lt e he
    have h3 := h.le
    exact List.mem_range.2 (by omega))
  simpa using this
theorem nearC_le (H : List Nat) (s v : Nat) : nearC H s v ≤ 32 := popN_32 _
theorem best_bound (H : List Nat) (s : Nat) : ∀ l : List Nat, -1 ≤ (bestTo H s l).2 ∧ (bestTo H s l).2 ≤ 32 := by
  have key : ∀ (l : List Nat) (p : Int × Int), -1 ≤ p.2 → p.2 ≤ 32 → -1 ≤ (l.foldl (bestS H s) p).2 ∧ (l.foldl (bestS H s) p).2 ≤ 32 := fun l => by
    induction l with
    | nil => intro p h1 h2; exact ⟨h1, h2⟩
    | cons v l ih =>
      intro p h1 h2
      rw [List.foldl_cons]
      have := nearC_le H s v
      unfold bestS
      split
      · exact ih _ (by simp only; omega) (by simp only; omega)
      · exact ih _ h1 h2
  exact fun l => key l _ (by simp) (by simp)
theorem elArr : Elem Tryz.prog 118 100 2 16 (.agg #[.int .i64 0, .int .i64 0]) := ⟨Tryz.underlying118, by kernel_rfl, rfl, by omega, by omega⟩
set_option maxRecDepth 100000 in
set_option maxHeartbeats 16000000 in
theorem growthOf_any {S : Nat → Prop} {nv : Value} {H : List Nat} {w : World} (ht : Tab w) (hN : NetW H) (h1 : 0 < H.length) (hv : SlI S w .u32 nv (natsI H)) :
    Calls Tryz.prog 88 #[nv] w fun e w' => ∃ u, e = .returned u ∧ Own w' w.heap.size 100 2 u (growR H 0).length ((flatE (growR H 0)).map (.int .i64)) ∧ Below w.heap.size w w' := by
  have h16 := hN.le
  have hp16 := pow_le16 h16
  have hf := firstN_lt h16
  have HH16 := Lib.hid (fun v => show H.getD v 0 < 65536 from Nat.lt_of_lt_of_le (lt_bits (n := H.length) fun i hi => hN.inn v i hi) hp16)
  have HT := Lib.hid (fun (W : World) (hb : Below w.heap.size w W) => ht.below hb (Nat.le_refl _))
  obtain ⟨nb, no, ncap, hne, hnc⟩ := hv.at_
  obtain ⟨na, nc, rfl⟩ := hv.slice
  rw [natsI_len] at *
  have hne2 := hne h1
  simp only [Value.slice.injEq] at hne2
  obtain ⟨rfl, -, rfl⟩ := hne2
  have HNC := Lib.hid (fun (W : World) (hb : Below w.heap.size w W) (x : Nat) (hx : x < H.length) => show W.cell? ⟨nb, no + x, none⟩ = some (.int .u32 ((H.getD x 0 : Nat) : Int)) from by
    have h := hnc x (by rw [natsI_len]; exact hx)
    rw [natsI_get] at h
    refine ((hb.cell (p := ⟨nb, no + x, none⟩) (cell_lt h)).trans h).trans ?_
    simp [hx])
  have HAL := Lib.hid (fun (W : World) => allOf_any (some ⟨nb, no, none⟩) H.length nc W h16)
  have hed := (grow_all hN).1
  have hel := edgeL_len hed
  have HG0 : RowKit.Hid (growR H 0 = [] ++ growR H 0) := Lib.hid rfl
  have HGA := Lib.hid (growR_all H)
  have HGS := Lib.hid (fun (s : Nat) (hs : s < 2 ^ H.length) (hne : s ≠ firstN H.length) => growR_step hN hs hne)
  have HBX := Lib.hid (fun (s : Nat) (hs : s < 2 ^ H.length) (hne : s ≠ firstN H.length) => bestX_facts hN hs hne)
  have HPP := Lib.hid (fun (s : Nat) (hs : s < 2 ^ H.length) (hne : s ≠ firstN H.length) => pop_ltG hN hs hne)
  have HBT := Lib.hid (fun (s x : Nat) (hs : s < 2 ^ H.length) (hx : x < H.length) => show s ||| bit x < 2 ^ H.length from Nat.or_lt_two_pow hs (Nat.pow_lt_pow_right (by omega) hx))
  have ho0 : Own (w.alloc (.cells #[] 100)) w.heap.size 100 2 (.slice (some ⟨w.heap.size, 0, none⟩) 0 0) ([] : List NP).length ((flatE []).map (.int .i64)) := by
    have := World.ownsRow_lit (base := w.heap.size) (e := 100) (size := 2) w #[] 0 (Nat.le_refl _) (by unfold maxLen; omega) rfl
    simpa [Own, flatE] using this
  have hq0 : Below w.heap.size w (w.alloc (.cells #[] 100)) := (Below.refl _ _).alloc (Nat.le_refl _) _
  have hpp : 0 < 2 ^ H.length := Nat.two_pow_pos _
  generalize hP : 2 ^ H.length = P at *
  clear hP hnc hv hne hed
  generalize hF : firstN H.length = F at *
  have HF := Lib.hid hF
  clear hF
  go_enter Tryz.func88, Tryz.ntmps88
  go_wp2
  go_loopw [3, 4] (fun ov sv wr => ∃ (L : List NP) (s : Nat), sv = .int .u32 (s : Int) ∧ s < P ∧ RowKit.Hid (growR H 0 = L ++ growR H s) ∧ Own wr w.heap.size 100 2 ov L.length ((flatE L).map (.int .i64)) ∧ Below w.heap.size w wr) (fun _ sv _ => H.length - popN (RowKit.intOf sv).toNat)
  case atStart => exact ⟨[], 0, rfl, hpp, HG0, ho0, hq0⟩
  case round =>
    clear HG0 ho0 hq0 hpp
    obtain ⟨L, s, rfl, hs, HG, ho, hq⟩ := hrel
    obtain ⟨oa, oc, rfl⟩ := ho.isSlice
    obtain ⟨wi, rfl⟩ : ∃ x : World, x = wr := ⟨_, rfl⟩
    have hall := HAL.out
    by_cases hsF : s = F
    · have hb : ((s : Int) != (F : Int)) = false := by rw [hsF]; simp
      have HL := Lib.hid (show growR H 0 = L by rw [HG.out, hsF, HGA.out, List.append_nil])
      clear hsF
      go_wp2_with (go_at_call 35; refine (hall _).mono ?_; rintro e w' ⟨rfl, rfl⟩)
      go_ret
      rw [HL.out]
      exact ⟨_, rfl, ho, hq⟩
    have hb : ((s : Int) != (F : Int)) = true := by rw [bne_iff_ne]; omega
    obtain ⟨hx1, hx2, hx3, -⟩ := HBX.out s hs hsF
    have HGN := Lib.hid (HGS.out s hs hsF)
    have HPN := Lib.hid (HPP.out s hs hsF)
    have hs32 : s < 4294967296 := by omega
    have hal : andN F s < 4294967296 := Nat.lt_of_le_of_lt (andN_le _ _) (by omega)
    have ha1 : bits BinOp.andNot IntKind.u32 (F : Int) (s : Int) = ((andN F s : Nat) : Int) := u32_andNot_nat _ _ (by omega) hs32
    have hli := list_any (andN F s) wi (HT.out wi hq) hal
    have hx1b := HBT.out s _ hs hx1
    have HX3 := Lib.hid hx3
    have hpa := popN_add hs32 (show bestX H s < 32 by omega) hx2
    have HPA := Lib.hid hpa
    clear hx3 hsF hpa
    generalize bestX H s = x at *
    generalize hm : andN F s = m at *
    have HM := Lib.hid (show bitsI m = natsI (bitsN m) from bits_nats m)
    rw [HM.out, natsI_len] at hli
    have hlm : (bitsN m).length ≤ 32 := popN_32 m
    have HBS := Lib.hid (fun k (hk : k < (bitsN m).length) => show bestTo H s ((bitsN m).take (k + 1)) = bestS H s (bestTo H s ((bitsN m).take k)) (bitsN m)[k] ∧ (bitsN m)[k] < H.length from by
      rw [List.take_succ_eq_append_getElem hk]
      refine ⟨best_snoc _ _ _ _, ?_⟩
      have h := (mem_bitsN hal).1 (List.getElem_mem hk)
      generalize (bitsN m)[k] = y at h ⊢
      rw [← hm, testBit_andN (by omega) hs32, Bool.and_eq_true, ← HF.out, testBit_firstN, decide_eq_true_eq] at h
      exact h.1)
    have HBB := Lib.hid (fun k => best_bound H s ((bitsN m).take k))
    have HBE := Lib.hid (show bestTo H s ((bitsN m).take (bitsN m).length) = bestTo H s (bitsN m) by rw [List.take_length])
    have HB0 : RowKit.Hid (bestTo H s ((bitsN m).take 0) = (-1, -1)) := Lib.hid rfl
    generalize hl : bitsN m = l at *
    clear hl hm HM hal
    go_wp2_with (go_at_call 35; refine (hall _).mono ?_; rintro e w' ⟨rfl, rfl⟩)
    refine hli.mono ?_
    rintro e w1 ⟨lu, rfl, hlu, hb1⟩
    have hq1 := hq.trans (hb1.mono hq.size)
    have ho1 := ho.below hb1 (Nat.le_refl _)
    obtain ⟨la, lc, rfl⟩ := hlu.isSlice
    have HLC := Lib.hid (fun k (hk : k < l.length) => show ∃ lb, la = some ⟨lb, 0, none⟩ ∧ w1.cell? ⟨lb, k, none⟩ = some (.int .i64 ((l[k] : Nat) : Int)) from by
      obtain ⟨lb, lcap, hle⟩ := own_some hlu (by omega)
      simp only [Value.slice.injEq] at hle
      obtain ⟨rfl, -, rfl⟩ := hle
      refine ⟨lb, rfl, ?_⟩
      have h := World.ownsRow.cellAt hlu k (by omega)
      have e : ((natsI l).map (Value.int .i64))[k]? = some (.int .i64 ((l[k] : Nat) : Int)) := by unfold natsI; simp [hk]
      rw [e] at h
      simpa using h)
    clear hli hlu hb1 ho hq
    go_wp2
    go_loopw [5, 6, 23] (fun xv mv kv wx => ∃ (k : Nat) (p1 p2 : Int), k ≤ l.length ∧ kv = .int .i64 (k : Int) ∧ xv = .int .i64 p1 ∧ mv = .int .i64 p2 ∧ RowKit.Hid (bestTo H s (l.take k) = (p1, p2)) ∧ Drawn w1 wx) (fun _ _ kv _ => l.length - (RowKit.intOf kv).toNat)
    case atStart => exact ⟨0, -1, -1, Nat.zero_le _, rfl, rfl, rfl, HB0, Drawn.refl _⟩
    case round =>
      clear HB0
      obtain ⟨k, p1, p2, hk, rfl, rfl, rfl, HB, hd⟩ := hrel
      have hqx := hq1.trans ((hd.below w1.heap.size).mono hq1.size)
      by_cases hkl : k < l.length
      case pos =>
        obtain ⟨lb, rfl, hlc⟩ := HLC.out k hkl
        obtain ⟨hst, hyn⟩ := HBS.out k hkl
        have hcl := (hd.cell _).trans hlc
        have hcn := HNC.out wr hqx _ hyn
        have hM := HH16.out l[k]
        have HST := Lib.hid (show bestTo H s (l.take (k + 1)) = (if (bestTo H s (l.take k)).2 < ((nearC H s l[k] : Nat) : Int) then (((l[k] : Nat) : Int), ((nearC H s l[k] : Nat) : Int)) else bestTo H s (l.take k)) from hst)
        clear hst hlc
        generalize l[k] = y at *
        have hnr := nearC_le H s y
        have HNR := Lib.hid (show nearC H s y = popN (H.getD y 0 &&& s) from rfl)
        generalize H.getD y 0 = M at *
        have hand := u32_and_nat M s (by omega) hs32
        have hms : M &&& s < 65536 := Nat.lt_of_le_of_lt Nat.and_le_left hM
        have hsz := fun W : World => size_any (M &&& s) W hms
        have hpn : ((bitsI (M &&& s)).length : Int) = ((nearC H s y : Nat) : Int) := by rw [HNR.out, ← popN_I]
        rw [hpn] at hsz
        clear hpn HNR
        generalize nearC H s y = c at *
        by_cases hgt : p2 < (c : Int)
        · have HS2 := Lib.hid (show bestTo H s (l.take (k + 1)) = ((y : Int), (c : Int)) by
            have h := HST.out
            rw [HB.out] at h
            rw [h]; simp only [if_pos hgt])
          go_wp2_with (go_at_call 36; refine (hsz _).mono ?_; rintro e w' ⟨rfl, hd2⟩)
          go_roundw
          case rel => exact ⟨k + 1, y, c, by omega, by go_num, rfl, rfl, HS2, hd.trans hd2⟩
          case measure => (simp [RowKit.intOf] <;> omega)
        · have HS2 := Lib.hid (show bestTo H s (l.take (k + 1)) = (p1, p2) by
            have h := HST.out
            rw [HB.out] at h
            rw [h]; simp only [if_neg hgt])
          go_wp2_with (go_at_call 36; refine (hsz _).mono ?_; rintro e w' ⟨rfl, hd2⟩)
          go_roundw
          case rel => exact ⟨k + 1, p1, p2, by omega, by go_num, rfl, rfl, HS2, hd.trans hd2⟩
          case measure => (simp [RowKit.intOf] <;> omega)
      case neg =>
        obtain rfl : k = l.length := by omega
        have hp1 : p1 = (x : Int) := by
          have h := HB.out
          rw [HBE.out] at h
          have h2 := HX3.out
          rw [h] at h2
          exact h2
        subst hp1
        have hM := HH16.out x
        have hcn := HNC.out wr hqx x hx1
        have HBK := Lib.hid (show blockE H s x = (bitsN (H.getD x 0 &&& s)).map (fun u => (u, x)) from rfl)
        have hms : H.getD x 0 &&& s < 4294967296 := Nat.lt_of_le_of_lt Nat.and_le_left (Nat.lt_trans hM (by omega))
        have hand := u32_and_nat (H.getD x 0) s (by omega) hs32
        generalize H.getD x 0 = M at *
        have hl2 := list_any (M &&& s) wr (HT.out wr hqx) hms
        have hor := u32_or_nat s (bit x) hs32 (bit_lt (by omega))
        have hon := fun W : World => one_any (x : Int) W (by omega) (by omega)
        rw [Int.toNat_natCast] at hon
        rw [bits_nats, natsI_len] at hl2
        have hlm2 : (bitsN (M &&& s)).length ≤ 32 := popN_32 _
        have hox := ho1.drawn hd
        clear HB HX3 HBE HBB HBS HLC hms ho1 hq1 hM hl2
        have hl2 := list_any (M &&& s) wr (HT.out wr hqx) (Nat.lt_of_le_of_lt Nat.and_le_right hs32)
        rw [bits_nats, natsI_len] at hl2
        generalize bitsN (M &&& s) = r at *
        have HLE := Lib.hid (show (L ++ r.map fun u => (u, x)).length ≤ 256 from by
          have h1 := congrArg List.length HG.out
          rw [HGN.out, HBK.out, ← List.append_assoc, List.length_append] at h1
          omega)
        generalize M &&& s = ms at *
        go_wp2_with (go_at_call 35; skip)
        refine hl2.mono ?_
        rintro e w5 ⟨ru, rfl, hru, hb5⟩
        have hq5 := hqx.trans (hb5.mono hqx.size)
        have ho5 := hox.below hb5 (Nat.le_refl _)
        obtain ⟨ra, rc, rfl⟩ := hru.isSlice
        have HRG := Lib.hid (fun k (hk : k < r.length) => show ((natsI r).map (Value.int .i64))[k]? = some (.int .i64 ((r[k] : Nat) : Int)) from by unfold natsI; simp [hk])
        have hru5 : Own w5 w.heap.size 3 1 (.slice ra r.length rc) r.length ((natsI r).map (.int .i64)) := hru.weak hqx.size
        have hlp0 : L.length = (L ++ (r.take 0).map fun u => (u, x)).length := by simp
        have HO0 := Lib.hid (show Own w5 w.heap.size 100 2 (.slice oa L.length oc) (L ++ (r.take 0).map fun u => (u, x)).length ((flatE (L ++ (r.take 0).map fun u => (u, x))).map (.int .i64)) from by
          rw [← hlp0, List.take_zero, List.map_nil, List.append_nil]; exact ho5)
        have HTKR := Lib.hid (fun k (hk : k < r.length) => show (flatE (L ++ (r.take k).map fun u => (u, x))).map (Value.int .i64) ++ [.int .i64 ((r[k] : Nat) : Int), .int .i64 (x : Int)] = (flatE (L ++ (r.take (k + 1)).map fun u => (u, x))).map (.int .i64) ∧ (L ++ (r.take k).map fun u => (u, x)).length + 1 = (L ++ (r.take (k + 1)).map fun u => (u, x)).length ∧ (L ++ (r.take k).map fun u => (u, x)).length ≤ 256 from by
          rw [List.take_succ_eq_append_getElem hk, List.map_append, ← List.append_assoc, flatE_app (L ++ (r.take k).map fun u => (u, x))]
          refine ⟨by rw [List.map_append]; simp [flatE], by simp; omega, ?_⟩
          have := HLE.out
          rw [List.length_append, List.length_map] at this ⊢
          rw [List.length_take]; omega)
        have HTE := Lib.hid (show r.take r.length = r from List.take_length)
        clear hlp0 ho5 hru hl2 hox hb5
        go_wp2
        go_loopw [3, 48] (fun ov kv wy => ∃ k : Nat, k ≤ r.length ∧ kv = .int .i64 (k : Int) ∧ Own wy w.heap.size 100 2 ov (L ++ (r.take k).map fun u => (u, x)).length ((flatE (L ++ (r.take k).map fun u => (u, x))).map (.int .i64)) ∧ Own wy w.heap.size 3 1 (.slice ra r.length rc) r.length ((natsI r).map (.int .i64)) ∧ Below w.heap.size w wy) (fun _ kv _ => r.length - (RowKit.intOf kv).toNat)
        case atStart => exact ⟨0, Nat.zero_le _, rfl, HO0.out, hru5, hq5⟩
        case round =>
          clear HO0 hru5 hq5 hqx
          obtain ⟨k, hk, rfl, ho, hr, hqj⟩ := hrel
          obtain ⟨wj, rfl⟩ : ∃ y : World, y = wr := ⟨_, rfl⟩
          by_cases hkr : k < r.length
          case neg =>
            obtain rfl : k = r.length := by omega
            rw [HTE.out] at ho
            have HGF := Lib.hid (show growR H 0 = (L ++ r.map fun u => (u, x)) ++ growR H (s ||| bit x) by rw [HG.out, HGN.out, HBK.out, List.append_assoc])
            have HMM := Lib.hid (show H.length - popN (s ||| bit x) < H.length - popN s by rw [HPA.out]; have := HPN.out; omega)
            generalize s ||| bit x = s2 at *
            generalize bit x = bx at *
            go_wp2_with (go_at_call 109; refine (hon _).mono ?_; rintro e w' ⟨rfl, rfl⟩)
            go_roundw
            case rel => exact ⟨_, s2, rfl, hx1b, HGF, ho, hqj⟩
            case measure => exact HMM.out
          obtain ⟨lb, lcap, hle⟩ := own_some hr (by omega)
          simp only [Value.slice.injEq] at hle
          obtain ⟨rfl, -, rfl⟩ := hle
          have hcl : wj.cell? ⟨lb, k, none⟩ = some (.int .i64 ((r[k] : Nat) : Int)) := by
            have h := World.ownsRow.cellAt hr k (by omega)
            rw [HRG.out k hkr] at h
            simpa using h
          have hbw := hqj.size
          obtain ⟨hT1, hT2, hT3⟩ := HTKR.out k hkr
          have HT1 := Lib.hid hT1
          have HT2 := Lib.hid hT2
          obtain ⟨oa2, oc2, rfl⟩ := ho.isSlice
          clear hT1 hT2
          generalize r[k] = y at *
          generalize hLk : (L ++ (r.take k).map fun u => (u, x)) = Lk at *
          go_wp2_with (at_builtin; refine wpList_append1m elArr rfl _ _ rfl ho rfl (by first | rfl | simp) rfl rfl (by simp [Value.oneCell']) (by omega) hbw ?_; intro v' w6 ho6 hk6 hm6)
          have hq6 := hk6.below hqj hbw (fun b hb => ho.ge b hb)
          have hr6 := hr.kept hk6 (fun b hb e => own_type hr ho (by decide) b hb e)
          rw [HT1.out, HT2.out] at ho6
          go_roundw
          case rel => exact ⟨k + 1, by omega, by go_num, ho6, hr6, hq6⟩
          case measure => (simp [RowKit.intOf] <;> omega)
end Go.Proofs.YtdbanndcdbikmaaGreatDoor
