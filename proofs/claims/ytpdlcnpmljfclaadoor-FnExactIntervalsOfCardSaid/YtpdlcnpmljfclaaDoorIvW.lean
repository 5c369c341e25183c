/- IntervalsOf of both sides; the law. -/
import Derived.Test.YtpdlcnpmljfclaaDoorClqB
import Derived.Test.YtpdlcnpmljfclaaDoorIvM
import Derived.Test.YtpdlcnpmljfclaaDoorIvs
namespace Go.Proofs.YtpdlcnpmljfclaaDoor
open Go.RowKit
/-- The intervals of the first vertices. -/
def ivP (cs r : List Nat) (n : Nat) : List (Int × Int) := (List.range n).map fun v => ivTo cs r v (-1) r.length
theorem ivP_succ (cs r : List Nat) (n : Nat) : ivP cs r (n + 1) = ivP cs r n ++ [ivTo cs r n (-1) r.length] := by unfold ivP; rw [List.range_succ, List.map_append]; rfl
theorem ivP_len (cs r : List Nat) (n : Nat) : (ivP cs r n).length = n := by simp [ivP]
noncomputable def ivL (g : List (List Int)) : List (Int × Int) := match cliqO g with | none => [] | some r => ivP (clqs (netsL g)) r g.length
theorem ivL_none {g : List (List Int)} (h : cliqO g = none) : ivL g = [] := by unfold ivL; rw [h]
theorem ivL_some {g : List (List Int)} {r : List Nat} (h : cliqO g = some r) : ivL g = ivP (clqs (netsL g)) r g.length := by unfold ivL; rw [h]
/-- What is known where there is an order. -/
structure OrdK (g : List (List Int)) (r : List Nat) : Prop where
  ok : gokB g = true
  peo : peo (netsL g) ≠ none
  line : lineG (clqs (netsL g)) 0 = some r
  le : (clqs (netsL g)).length ≤ 16
  len : r.length ≤ 16
  lt : ∀ k ∈ r, k < (clqs (netsL g)).length
theorem OrdK.of {g : List (List Int)} {r : List Nat} (h : cliqO g = some r) : OrdK g r := by
  have h0 := h
  unfold cliqO at h
  split at h
  case isFalse => cases h
  case isTrue hgb =>
    have hg := gokB_iff.1 hgb
    unfold orderF at h
    split at h
    case isFalse => cases h
    case isTrue hp =>
      have hne : Go.Proofs.YtpdlcnpmljfclaaDoor.peo (netsL g) ≠ none := fun e => by rw [e] at hp; cases hp
      have hm : (clqs (netsL g)).length ≤ 16 := by have := (clqs_net hg).2.2.2 hne; rw [netsL_len] at this; exact Nat.le_trans this hg.hi
      have hf := lineF_len hm (Nat.two_pow_pos _) h
      exact ⟨hgb, hne, h, hm, hf.1, hf.2⟩
theorem OrdK.any {g : List (List Int)} {r : List Nat} (h : OrdK g r) {v : Nat} (hv : v < g.length) (z z' : Int) : ivTo (clqs (netsL g)) r v z r.length = ivTo (clqs (netsL g)) r v z' r.length := by
  have hg := gokB_iff.1 h.ok
  exact iv_any (by rw [netsL_len]; exact hg.lo) (by rw [netsL_len]; exact hg.hi) (net_lt32 hg) (fun _ _ hb => (net_sym hg hb).2.2.2) (net_irr hg) h.peo h.line (by rw [netsL_len]; exact hv) z z'
theorem ivL_len (g : List (List Int)) : (ivL g).length ≤ 1048576 := by
  cases h : cliqO g with
  | none => rw [ivL_none h]; simp
  | some r => rw [ivL_some h, ivP_len]; have := (gokB_iff.1 (OrdK.of h).ok).hi; omega
theorem elIv : Elem Tryd.prog 44 80 2 16 (.agg #[.int .i64 0, .int .i64 0]) := ⟨Tryd.underlying44, by kernel_rfl, rfl, by omega, by omega⟩
theorem ivNil (W : World) (B : Nat) (hB : B ≤ W.heap.size) : Own (W.alloc (.cells #[] 80)) B 80 2 (.slice (some ⟨W.heap.size, 0, none⟩) 0 0) 0 ((flatV []).map (.int .i64)) := by
  have := World.ownsRow_lit (base := B) (e := 80) (size := 2) W #[] 0 hB (by unfold maxLen; omega) rfl
  simpa [Own, flatV] using this
set_option maxRecDepth 100000 in
set_option maxHeartbeats 8000000 in
theorem specIntervalsOf_any {S : Nat → Prop} {v : Value} {g : List (List Int)} {w : World} (hv : SlR S w v g) :
    Calls Tryd.prog 24 #[.agg #[v]] w fun e w' => ∃ u, e = .returned (.tuple #[u, .bool (cliqO g).isSome]) ∧ SlV (fun b => b < w'.heap.size) w' u (ivL g).length (flatV (ivL g)) ∧ Below w.heap.size w w' := by
  have hq0 : Below w.heap.size w (w.alloc (.cells #[v] 29)) := (Below.refl _ _).alloc (Nat.le_refl _) _
  have hco := specCliqueOrder_any (hv.below hq0 (Nat.le_refl _))
  obtain ⟨va, vc, rfl⟩ := hv.slice
  have c0 : (w.alloc (.cells #[.slice va g.length vc] 29)).cell? ⟨w.heap.size, 0, none⟩ = some (.slice va g.length vc) := by simp [go_sem]
  cases hr : cliqO g with
  | none =>
    rw [hr] at hco
    have HL := Lib.hid (ivL_none hr)
    clear hr hv
    go_enter Tryd.func24, Tryd.ntmps24
    go_wp2_with fail
    refine hco.mono ?_
    rintro e w1 ⟨u1, rfl, -, hb1⟩
    have hq1 := hq0.trans (hb1.mono hq0.size)
    have hn := (ivNil w1 w.heap.size hq1.size).ivs
    have hn2 := (ivNil w1 w.heap.size hq1.size).lt w1.heap.size rfl
    have hq2 := hq1.alloc hq1.size (.cells #[] 80)
    go_wp2
    go_ret2
    rw [HL.out]
    exact ⟨_, rfl, hn.weak fun b hb => by have e : w1.heap.size = b := Option.some.inj hb; subst e; exact hn2.2, hq2⟩
  | some r =>
    have hK := OrdK.of hr
    have hg := gokB_iff.1 hK.ok
    have h16 := hg.hi
    have hcq := fun (W : World) (hb : Below w.heap.size w W) => specCliquesOf_any hg (hv.below hb (Nat.le_refl _))
    have HL := Lib.hid (ivL_some hr)
    have hrl := hK.len
    have hlt := hK.lt
    have hc16 := clqs_lt16 hg
    rw [hr] at hco
    clear hr hv hg hK
    simp only [Option.getD_some, Option.isSome_some] at hco ⊢
    generalize clqs (netsL g) = cs at *
    go_enter Tryd.func24, Tryd.ntmps24
    go_wp2_with fail
    refine hco.mono ?_
    rintro e w1 ⟨u1, rfl, hu1, hb1⟩
    have hq1 := hq0.trans (hb1.mono hq0.size)
    have c1 := (hb1.cell (cell_lt c0)).trans c0
    clear hco hq0 c0 hb1
    go_wp2_with fail
    refine (hcq w1 hq1).mono ?_
    rintro e w2 ⟨u2, rfl, hu2, hb2⟩
    have hq2 := hq1.trans (hb2.mono hq1.size)
    have c2 := (hb2.cell (cell_lt c1)).trans c1
    have hu1 := hu1.below hb2 (Nat.le_refl _)
    have hz2 : w.heap.size < w2.heap.size := cell_lt c2
    clear hcq hq1 c1 hb2
    have HK := Lib.hid (fun (k : Nat) (hk : k < r.length) => show ∃ ob oo rb ro fa fn fc, (∃ c, u1 = .slice (some ⟨ob, oo, none⟩) r.length c) ∧ (∃ c, u2 = .slice (some ⟨rb, ro, none⟩) cs.length c) ∧ r[k] < cs.length ∧ ∀ W : World, Below w2.heap.size w2 W → W.cell? ⟨ob, oo + k, none⟩ = some (.int .i64 ((r[k] : Nat) : Int)) ∧ W.cell? ⟨rb, ro + r[k], none⟩ = some (.slice fa fn fc) ∧ ∀ x : Nat, Calls Tryd.prog 56 #[.slice fa fn fc, .int .i64 (x : Int)] W fun e w' => e = .returned (.bool ((cs.getD r[k] 0).testBit x)) ∧ W = w' from by
      obtain ⟨ob, oo, oc, hoe, hoc⟩ := hu1.at_
      obtain ⟨a, rb, ro, cap, f, hue, hcap, ha, hc⟩ := hu2
      rw [natsI_len] at hoe
      rw [List.length_map] at hcap ha hue
      have hrk := hlt r[k] (List.getElem_mem hk)
      obtain ⟨hf, hs⟩ := hc r[k] (by simpa using hrk)
      rw [List.getElem_map] at hs
      obtain ⟨fa, fc, hfe⟩ := hs.slice
      refine ⟨ob, oo, rb, ro, fa, (bitsI cs[r[k]]).length, fc, ⟨oc, hoe (by omega)⟩, ⟨cap, by rw [hue, (ha (by omega)).1]⟩, hrk, fun W hb => ⟨?_, ?_, fun x => ?_⟩⟩
      · have h := hoc k (by rw [natsI_len]; exact hk)
        rw [natsI_get] at h
        exact (hb.cell (p := ⟨ob, oo + k, none⟩) (cell_lt h)).trans h
      · rw [← hfe]; exact (hb.cell (p := ⟨rb, ro + r[k], none⟩) (cell_lt hf)).trans hf
      · rw [← hfe]
        refine (l1Has_any _ _ _ _ (hs.below hb (Nat.le_refl _))).mono ?_
        rintro e w' ⟨rfl, h2⟩
        refine ⟨?_, h2⟩
        have hm := hc16 cs[r[k]] (List.getElem_mem hrk)
        rw [show cs.getD r[k] 0 = cs[r[k]] by simp [hrk]]
        congr 2
        rw [Bool.eq_iff_iff, decide_eq_true_eq, mem_bitsI (by omega)]
        simp)
    have ho3 := ivNil w2 w2.heap.size (Nat.le_refl _)
    have hb3 : Below w2.heap.size w2 (w2.alloc (.cells #[] 80)) := (Below.refl _ _).alloc (Nat.le_refl _) _
    obtain ⟨a1, cc1, rfl⟩ := hu1.slice
    obtain ⟨a2, cc2, rfl⟩ := hu2.slice
    rw [natsI_len] at *
    rw [List.length_map] at *
    clear hu1 hu2 hlt hc16
    go_wp2
    go_loopw [7, 8] (fun ov iv wr => ∃ x : Nat, x ≤ g.length ∧ iv = .int .i64 (x : Int) ∧ Own wr w2.heap.size 80 2 ov x ((flatV (ivP cs r x)).map (.int .i64)) ∧ Below w2.heap.size w2 wr) (fun _ iv _ => g.length - (RowKit.intOf iv).toNat)
    case atStart => exact ⟨0, Nat.zero_le _, rfl, ho3, hb3⟩
    case round =>
      clear ho3 hb3
      obtain ⟨x, hx, rfl, ho, hb⟩ := hrel
      obtain ⟨oa, oc, rfl⟩ := ho.isSlice
      have c3 := (hb.cell (cell_lt c2)).trans c2
      by_cases hxn : x < g.length
      case neg =>
        obtain rfl : x = g.length := by omega
        have hqf := hq2.trans (hb.mono hq2.size)
        go_wp2
        go_ret2
        rw [HL.out, ivP_len]
        exact ⟨_, rfl, ho.ivs.weak fun b hb2 => (ho.lt b hb2).2, hqf⟩
      have HX := Lib.hid (show (flatV (ivP cs r x)).map (Value.int .i64) ++ [.int .i64 (ivTo cs r x (-1) r.length).1, .int .i64 (ivTo cs r x (-1) r.length).2] = (flatV (ivP cs r (x + 1))).map (.int .i64) by rw [ivP_succ, flatV_snoc, List.map_append]; rfl)
      have H0 : RowKit.Hid (ivTo cs r x (-1) 0 = (-1, -1)) := Lib.hid rfl
      obtain ⟨wo, rfl⟩ : ∃ y : World, y = wr := ⟨_, rfl⟩
      go_wp2
      go_loopw [9, 10, 11] (fun fv lv kv wx => ∃ (k : Nat) (p1 p2 : Int), k ≤ r.length ∧ kv = .int .i64 (k : Int) ∧ fv = .int .i64 p1 ∧ lv = .int .i64 p2 ∧ RowKit.Hid (ivTo cs r x (-1) k = (p1, p2)) ∧ wo = wx) (fun _ _ kv _ => r.length - (RowKit.intOf kv).toNat)
      case atStart => exact ⟨0, -1, -1, Nat.zero_le _, rfl, rfl, rfl, H0, rfl⟩
      case round =>
        clear H0
        obtain ⟨k, p1, p2, hk, rfl, rfl, rfl, HP, rfl⟩ := hrel
        by_cases hkr : k < r.length
        case neg =>
          obtain rfl : k = r.length := by omega
          have HE := Lib.hid (show (flatV (ivP cs r x)).map (Value.int .i64) ++ [.int .i64 p1, .int .i64 p2] = (flatV (ivP cs r (x + 1))).map (.int .i64) by rw [← HX.out, HP.out])
          have hBw := hb.size
          go_wp2_with (at_builtin; refine wpList_append1m elIv rfl _ _ rfl ho rfl (by first | rfl | simp) rfl rfl (by simp [Value.oneCell']) (by omega) hBw ?_; intro v' w6 ho6 hk6 hm6)
          have hb6 := hk6.below hb hBw (fun b hb => ho.ge b hb)
          rw [HE.out] at ho6
          go_roundw
          case rel => exact ⟨x + 1, by omega, by go_num, ho6, hb6⟩
          case measure => (simp [RowKit.intOf] <;> omega)
        obtain ⟨ob, oo, rb, ro, fa, fn, fc, ⟨c8, he1⟩, ⟨c9, he2⟩, hrk, hW⟩ := HK.out k hkr
        simp only [Value.slice.injEq] at he1 he2
        obtain ⟨rfl, -, rfl⟩ := he1
        obtain ⟨rfl, -, rfl⟩ := he2
        obtain ⟨d1, d2, hcl⟩ := hW wo hb
        have hcl := hcl x
        have HS := Lib.hid (show ivTo cs r x (-1) (k + 1) = ivStep (p1, p2) k ((cs.getD r[k] 0).testBit x) by rw [ivTo, HP.out]; simp [hkr])
        clear hW
        generalize r[k] = y at *
        cases ht : (cs.getD y 0).testBit x with
        | false =>
          rw [ht] at hcl
          have HS2 := Lib.hid (show ivTo cs r x (-1) (k + 1) = (p1, p2) by rw [HS.out, ht]; rfl)
          clear ht
          go_wp2_with (go_at_call 56; refine hcl.mono ?_; rintro e w' ⟨rfl, rfl⟩)
          go_roundw
          case rel => exact ⟨k + 1, p1, p2, by omega, by go_num, rfl, rfl, HS2, trivial⟩
          case measure => (simp [RowKit.intOf] <;> omega)
        | true =>
          rw [ht] at hcl
          by_cases hp : p1 < 0
          · have HS2 := Lib.hid (show ivTo cs r x (-1) (k + 1) = ((k : Int), (k : Int)) by rw [HS.out, ht]; simp [ivStep, hp])
            clear ht
            go_wp2_with (go_at_call 56; refine hcl.mono ?_; rintro e w' ⟨rfl, rfl⟩)
            go_roundw
            case rel => exact ⟨k + 1, k, k, by omega, by go_num, rfl, rfl, HS2, trivial⟩
            case measure => (simp [RowKit.intOf] <;> omega)
          · have HS2 := Lib.hid (show ivTo cs r x (-1) (k + 1) = (p1, (k : Int)) by rw [HS.out, ht]; simp [ivStep, hp])
            clear ht
            go_wp2_with (go_at_call 56; refine hcl.mono ?_; rintro e w' ⟨rfl, rfl⟩)
            go_roundw
            case rel => exact ⟨k + 1, p1, k, by omega, by go_num, rfl, rfl, HS2, trivial⟩
            case measure => (simp [RowKit.intOf] <;> omega)
set_option maxRecDepth 100000 in
set_option maxHeartbeats 8000000 in
theorem implIntervalsOf_any {S : Nat → Prop} {v : Value} {g : List (List Int)} {w : World} (ht : Tab w) (hv : SlR S w v g) :
    Calls Tryd.prog 25 #[.agg #[v]] w fun e w' => ∃ u, e = .returned (.tuple #[u, .bool (cliqO g).isSome]) ∧ Own w' w.heap.size 80 2 u (ivL g).length ((flatV (ivL g)).map (.int .i64)) ∧ Below w.heap.size w w' := by
  have hq0 : Below w.heap.size w (w.alloc (.cells #[v] 29)) := (Below.refl _ _).alloc (Nat.le_refl _) _
  have hgo := implGraphOk_any _ _ _ (hv.below hq0 (Nat.le_refl _))
  have hnn := eqlIntsC
  obtain ⟨va, vc, rfl⟩ := hv.slice
  have c0 : (w.alloc (.cells #[.slice va g.length vc] 29)).cell? ⟨w.heap.size, 0, none⟩ = some (.slice va g.length vc) := by simp [go_sem]
  cases hgb : gokB g with
  | false =>
    rw [hgb] at hgo
    have HO := Lib.hid (cliqO_none1 hgb)
    have HL := Lib.hid (ivL_none HO.out)
    clear hgb hv
    go_enter Tryd.func25, Tryd.ntmps25
    go_wp2_with fail
    refine hgo.mono ?_
    rintro e w1 ⟨rfl, hb1⟩
    have hq1 := hq0.trans (hb1.mono hq0.size)
    go_wp2
    go_ret2
    rw [HO.out, HL.out]
    exact ⟨_, rfl, Own.nil _ _ _ _, hq1⟩
  | true =>
    have hg := gokB_iff.1 hgb
    rw [hgb] at hgo
    have HO := Lib.hid (cliqO_ok hgb)
    have HG := Lib.hid hg
    have h16 := hg.hi
    have hc16 := clqs_lt16 hg
    clear hgb hg
    go_enter Tryd.func25, Tryd.ntmps25
    go_wp2_with fail
    refine hgo.mono ?_
    rintro e w1 ⟨rfl, hb1⟩
    have hq1 := hq0.trans (hb1.mono hq0.size)
    have c1 := (hb1.cell (cell_lt c0)).trans c0
    clear hgo hq0 c0 hb1
    go_wp2_with fail
    refine (netsOf_any _ _ _ (hv.below hq1 (Nat.le_refl _)) HG.out).mono ?_
    rintro e w2 ⟨u2, rfl, hu2, hb2⟩
    have hq2 := hq1.trans (hb2.mono hq1.size)
    have c2 := (hb2.cell (cell_lt c1)).trans c1
    have hni := hu2.ints (xs := natsI (netsL g)) (by omega)
    have hco := cliqueOrder_any (ht.below hq2 (Nat.le_refl _)) HG.out hni
    clear hu2 hni hb2 hq1 c1
    go_wp2_with fail
    refine hco.mono ?_
    rintro e w3 ⟨v3, cv, rfl, hno, hso, hb3⟩
    have hq3 := hq2.trans (hb3.mono hq2.size)
    have c3 := (hb3.cell (cell_lt c2)).trans c2
    have hz3 : w.heap.size < w3.heap.size := cell_lt c3
    have hs2 := hq2.size
    clear hco hb3 hq2 c2
    cases ho : orderF g with
    | none =>
      obtain rfl := hno ho
      have HO2 := Lib.hid (HO.out.trans ho)
      have HL := Lib.hid (ivL_none HO2.out)
      clear ho hno hso HO hc16
      go_wp2
      go_ret2
      rw [HO2.out, HL.out]
      exact ⟨_, rfl, Own.nil _ _ _ _, hq3⟩
    | some r =>
      obtain ⟨⟨rb, rc, rfl, hro⟩, hcv⟩ := hso r ho
      have HO2 := Lib.hid (HO.out.trans ho)
      have hK := OrdK.of HO2.out
      have HL := Lib.hid (ivL_some HO2.out)
      have hrl := hK.len
      have hlt := hK.lt
      have HAN := Lib.hid (fun (x : Nat) (hx : x < g.length) => hK.any hx 0 (-1))
      clear ho hno hso HO hK
      generalize clqs (netsL g) = cs at *
      have HK := Lib.hid (fun (k : Nat) (hk : k < r.length) => show ∃ cb co, (∃ c, cv = .slice (some ⟨cb, co, none⟩) cs.length c) ∧ r[k] < cs.length ∧ cs.getD r[k] 0 < 65536 ∧ ∀ W : World, Below w3.heap.size w3 W → W.cell? ⟨rb, k, none⟩ = some (.int .i64 ((r[k] : Nat) : Int)) ∧ W.cell? ⟨cb, co + r[k], none⟩ = some (.int .u32 ((cs.getD r[k] 0 : Nat) : Int)) from by
        obtain ⟨cb, co, cc, hce, hcc⟩ := hcv.at_
        rw [natsI_len] at hce
        have hrk := hlt r[k] (List.getElem_mem hk)
        refine ⟨cb, co, ⟨cc, hce (by omega)⟩, hrk, by rw [show cs.getD r[k] 0 = cs[r[k]] by simp [hrk]]; exact hc16 _ (List.getElem_mem hrk), fun W hb => ⟨?_, ?_⟩⟩
        · have h := World.ownsRow.cellAt hro k (by omega)
          have e : ((natsI r).map (Value.int .i64))[k]? = some (.int .i64 ((r[k] : Nat) : Int)) := by unfold natsI; simp [hk]
          rw [e] at h
          exact (hb.cell (p := ⟨rb, k, none⟩) (cell_lt (by simpa using h))).trans (by simpa using h)
        · have h := hcc r[k] (by rw [natsI_len]; exact hrk)
          rw [natsI_get] at h
          refine ((hb.cell (p := ⟨cb, co + r[k], none⟩) (cell_lt h)).trans h).trans ?_
          simp [hrk])
      have ho4 := ivNil w3 w3.heap.size (Nat.le_refl _)
      have hb4 : Below w3.heap.size w3 (w3.alloc (.cells #[] 80)) := (Below.refl _ _).alloc (Nat.le_refl _) _
      obtain ⟨ca, cc, rfl⟩ := hcv.slice
      rw [natsI_len] at *
      clear hro hcv hlt hc16
      go_wp2
      go_loopw [6, 26] (fun ov iv wr => ∃ x : Nat, x ≤ g.length ∧ iv = .int .i64 (x : Int) ∧ Own wr w3.heap.size 80 2 ov x ((flatV (ivP cs r x)).map (.int .i64)) ∧ Below w3.heap.size w3 wr) (fun _ iv _ => g.length - (RowKit.intOf iv).toNat)
      case atStart => exact ⟨0, Nat.zero_le _, rfl, ho4, hb4⟩
      case round =>
        clear ho4 hb4
        obtain ⟨x, hx, rfl, ho, hb⟩ := hrel
        obtain ⟨oa, oc, rfl⟩ := ho.isSlice
        by_cases hxn : x < g.length
        case neg =>
          obtain rfl : x = g.length := by omega
          have hqf := hq3.trans (hb.mono hq3.size)
          have hs3 := hq3.size
          go_wp2
          go_ret2
          rw [HO2.out, HL.out, ivP_len]
          exact ⟨_, rfl, ho.weak hs3, hqf⟩
        have HX := Lib.hid (show (flatV (ivP cs r x)).map (Value.int .i64) ++ [.int .i64 (ivTo cs r x 0 r.length).1, .int .i64 (ivTo cs r x 0 r.length).2] = (flatV (ivP cs r (x + 1))).map (.int .i64) by rw [HAN.out x hxn, ivP_succ, flatV_snoc, List.map_append]; rfl)
        have H0 : RowKit.Hid (ivTo cs r x 0 0 = (-1, 0)) := Lib.hid rfl
        obtain ⟨wo, rfl⟩ : ∃ y : World, y = wr := ⟨_, rfl⟩
        have hbx0 : Own (wo.alloc (.cells #[.int .i64 (-1), .int .i64 0] 80)) wo.heap.size 80 2 (.slice (some ⟨wo.heap.size, 0, none⟩) 1 1) 1 [.int .i64 (-1), .int .i64 0] := World.ownsRow_lit (base := wo.heap.size) (e := 80) (size := 2) wo #[.int .i64 (-1), .int .i64 0] 1 (Nat.le_refl _) (by unfold maxLen; omega) rfl
        have ho0 := ho.alloc (.cells #[.int .i64 (-1), .int .i64 0] 80)
        have hbw := hb.size
        have hb0 := hb.alloc hbw (.cells #[.int .i64 (-1), .int .i64 0] 80)
        have hk0 : KeptBut (wo.alloc (.cells #[.int .i64 (-1), .int .i64 0] 80)) (wo.alloc (.cells #[.int .i64 (-1), .int .i64 0] 80)) (some wo.heap.size) := ⟨rfl, rfl, rfl, Nat.le_refl _, fun _ _ _ => rfl⟩
        have hown := fun b (hb : (Value.slice oa x oc).ownBlock = some b) => (ho.lt b hb).2
        go_wp2
        obtain ⟨wa, hwa⟩ : ∃ y : World, y = wo.alloc (.cells #[.int .i64 (-1), .int .i64 0] 80) := ⟨_, rfl⟩
        have hsa : wo.heap.size < wa.heap.size := by rw [hwa]; simp
        rw [← hwa] at hbx0 ho0 hb0 hk0
        have c5 : ∀ W : World, Below w3.heap.size w3 W → W.cell? ⟨w.heap.size, 0, none⟩ = some (.slice va g.length vc) := fun W h => (h.cell (cell_lt c3)).trans c3
        try rw [← hwa]
        obtain ⟨xb, hxb⟩ : ∃ n, n = wo.heap.size := ⟨_, rfl⟩
        rw [← hxb] at hbx0 hk0 hsa hown hbw ⊢
        clear hwa hxb ho
        go_loopw [32] (fun kv wx => ∃ (k : Nat) (p1 p2 : Int), k ≤ r.length ∧ kv = .int .i64 (k : Int) ∧ RowKit.Hid (ivTo cs r x 0 k = (p1, p2)) ∧ Own wx xb 80 2 (.slice (some ⟨xb, 0, none⟩) 1 1) 1 [.int .i64 p1, .int .i64 p2] ∧ KeptBut wa wx (some xb)) (fun kv _ => r.length - (RowKit.intOf kv).toNat)
        case atStart => exact ⟨0, -1, 0, Nat.zero_le _, rfl, H0, hbx0, hk0⟩
        case round =>
          clear H0 hbx0 hk0
          obtain ⟨k, p1, p2, hk, rfl, HP, hbx, hkx⟩ := hrel
          have hox := ho0.kept hkx (fun b hb e => by have := hown b hb; have e2 := Option.some.inj e; omega)
          have hbb := hkx.below hb0 (by have := hb0.size; omega) (fun b hb => by have e := Option.some.inj hb; omega)
          have d1 := World.ownsRow.cellAt hbx 0 (by omega)
          have d2 := World.ownsRow.cellAt hbx 1 (by omega)
          simp only [List.getElem?_cons_zero, List.getElem?_cons_succ] at d1 d2
          by_cases hkr : k < r.length
          case neg =>
            obtain rfl : k = r.length := by omega
            have HE := Lib.hid (show (flatV (ivP cs r x)).map (Value.int .i64) ++ [.int .i64 p1, .int .i64 p2] = (flatV (ivP cs r (x + 1))).map (.int .i64) by rw [← HX.out, HP.out])
            have hBw := hbb.size
            go_wp2_with (at_builtin; refine wpList_append1m elIv rfl _ _ rfl hox rfl (by first | rfl | simp) rfl rfl (by simp [Value.oneCell']) (by omega) hBw ?_; intro v' w6 ho6 hk6 hm6)
            have hb6 := hk6.below hbb hBw (fun b hb => hox.ge b hb)
            rw [HE.out] at ho6
            go_roundw
            case rel => exact ⟨x + 1, by omega, by go_num, ho6, hb6⟩
            case measure => (simp [RowKit.intOf] <;> omega)
          obtain ⟨cb, co, ⟨c9, he2⟩, hrk, hm16, hW⟩ := HK.out k hkr
          simp only [Value.slice.injEq] at he2
          obtain ⟨rfl, -, rfl⟩ := he2
          obtain ⟨d3, d4⟩ := hW wr hbb
          have HS := Lib.hid (show ivTo cs r x 0 (k + 1) = ivStep (p1, p2) k ((cs.getD r[k] 0).testBit x) by rw [ivTo, HP.out]; simp [hkr])
          have hha := fun W : World => has_any (cs.getD r[k] 0) x W (by omega) (by omega)
          have f1 := World.ownsRow.frozenAt hbx 0
          have f2 := World.ownsRow.frozenAt hbx 1
          have hs1 := hbx.stored 0 (.int .i64 (k : Int))
          have hs2 := hbx.stored 1 (.int .i64 (k : Int))
          have hs3 := hs1.stored 1 (.int .i64 (k : Int))
          have d5 := World.ownsRow.cellAt hs1 1 (by omega)
          have f5 := World.ownsRow.frozenAt hs1 1
          have hk1 := KeptBut.trans hkx (KeptBut.set wr xb 0 (.int .i64 (k : Int)))
          have hk2 := KeptBut.trans hkx (KeptBut.set wr xb 1 (.int .i64 (k : Int)))
          have hk3 := KeptBut.trans hk1 (KeptBut.set (wr.setCell ⟨xb, 0, none⟩ (.int .i64 (k : Int))) xb 1 (.int .i64 (k : Int)))
          simp only [List.set_cons_zero, List.set_cons_succ, List.getElem?_cons_zero, List.getElem?_cons_succ] at hs1 hs2 hs3 d5
          clear hW
          generalize r[k] = y at *
          generalize cs.getD y 0 = M at *
          cases ht : M.testBit x with
          | false =>
            rw [ht] at hha
            have HS2 := Lib.hid (show ivTo cs r x 0 (k + 1) = (p1, p2) by rw [HS.out, ht]; rfl)
            clear ht
            go_wp2_with (go_at_call 57; refine (hha _).mono ?_; rintro e w' ⟨rfl, rfl⟩)
            go_roundw
            case rel => exact ⟨k + 1, p1, p2, by omega, by go_num, HS2, hbx, hkx⟩
            case measure => (simp [RowKit.intOf] <;> omega)
          | true =>
            rw [ht] at hha
            by_cases hp : p1 < 0
            · have HS2 := Lib.hid (show ivTo cs r x 0 (k + 1) = ((k : Int), (k : Int)) by rw [HS.out, ht]; simp [ivStep, hp])
              clear ht hbx hs1 hs2 hk1 hk2 hkx hox hbb
              go_wp2_with (go_at_call 57; refine (hha _).mono ?_; rintro e w' ⟨rfl, rfl⟩)
              go_roundw
              case rel => exact ⟨k + 1, k, k, by omega, by go_num, HS2, hs3, hk3⟩
              case measure => (simp [RowKit.intOf] <;> omega)
            · have HS2 := Lib.hid (show ivTo cs r x 0 (k + 1) = (p1, (k : Int)) by rw [HS.out, ht]; simp [ivStep, hp])
              clear ht hbx hs1 hs3 hk1 hk3 hkx hox hbb d5 f5
              go_wp2_with (go_at_call 57; refine (hha _).mono ?_; rintro e w' ⟨rfl, rfl⟩)
              go_roundw
              case rel => exact ⟨k + 1, p1, k, by omega, by go_num, HS2, hs2, hk2⟩
              case measure => (simp [RowKit.intOf] <;> omega)
end Go.Proofs.YtpdlcnpmljfclaaDoor
