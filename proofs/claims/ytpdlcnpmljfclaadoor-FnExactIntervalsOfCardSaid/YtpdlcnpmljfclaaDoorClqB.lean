/- The program's CliqueOrder and IntervalIn; the law of IntervalIn. -/
import Derived.Test.YtpdlcnpmljfclaaDoorClqV
import Derived.Test.YtpdlcnpmljfclaaDoorLinM
import Derived.Test.YtpdlcnpmljfclaaDoorMask64
import Derived.Test.YtpdlcnpmljfclaaDoorFit4
namespace Go.Proofs.YtpdlcnpmljfclaaDoor
open Go.RowKit
def sumTo (l : List Nat) (k : Nat) : Nat := ((l.take k).map bit).sum
theorem sumTo_succ {l : List Nat} {k : Nat} (h : k < l.length) : sumTo l (k + 1) = sumTo l k + bit l[k] := by
  unfold sumTo
  rw [List.take_succ_eq_append_getElem h, List.map_append, List.sum_append]; simp
theorem sumTo_bits {l : List Nat} (hs : l.Pairwise (· < ·)) : ∀ k, k ≤ l.length → ∀ j, (sumTo l k).testBit j = true ↔ j ∈ l.take k := by
  intro k
  induction k with
  | zero => intro _ j; simp [sumTo]
  | succ k ih =>
    intro hk j
    have hk2 : k < l.length := hk
    have hlt : sumTo l k < bit l[k] := lt_bits fun i hi => by
      have hm := (ih (by omega) i).1 hi
      obtain ⟨a, ha, rfl⟩ := List.getElem_of_mem hm
      rw [List.length_take] at ha
      rw [List.getElem_take]
      exact List.pairwise_iff_getElem.1 hs _ _ _ _ (by omega)
    rw [sumTo_succ hk2, Nat.add_comm, bit_addC hlt, ih (by omega), List.take_succ_eq_append_getElem hk2, List.mem_append, List.mem_singleton]
theorem sumTo_lt {m k : Nat} (hm : m < 65536) (hk : k ≤ (bitsN m).length) : sumTo (bitsN m) k < 65536 := lt_bits (n := 16) fun i hi => by
  have h := List.mem_of_mem_take ((sumTo_bits (bitsN_sorted m) k hk i).1 hi)
  exact bit_lt_of (n := 16) hm ((mem_bitsN (by omega)).1 h)
theorem sumTo_all {m : Nat} (hm : m < 65536) : sumTo (bitsN m) (bitsN m).length = m := nat_ext fun i => by
  rw [Bool.eq_iff_iff, sumTo_bits (bitsN_sorted m) _ (Nat.le_refl _), List.take_length, mem_bitsN (by omega)]
set_option maxHeartbeats 2000000 in
theorem l14Masks_any {S : Nat → Prop} {v : Value} {L : List Nat} {w : World} (hv : SlR S w v (L.map bitsI)) (hL : ∀ m ∈ L, m < 65536) (hl : L.length ≤ 65536) :
    Calls Tryd.prog 45 #[v] w fun e w' => ∃ u, e = .returned u ∧ Own w' w.heap.size 2 1 u L.length ((natsI L).map (.int .i64)) ∧ Below w.heap.size w w' := by
  obtain ⟨a, b, off, cap, f, rfl, hcap, ha, hc⟩ := hv
  rw [List.length_map] at hcap ha ⊢
  have ho0 : Own (w.alloc (.cells #[] 2)) w.heap.size 2 1 (.slice (some ⟨w.heap.size, 0, none⟩) 0 0) 0 ((natsI (L.take 0)).map (.int .i64)) := by
    have := World.ownsRow_lit (base := w.heap.size) (e := 2) (size := 1) w #[] 0 (Nat.le_refl _) (by unfold maxLen; omega) rfl
    simpa [Own, natsI] using this
  have hq0 : Below w.heap.size w (w.alloc (.cells #[] 2)) := (Below.refl _ _).alloc (Nat.le_refl _) _
  have HC := Lib.hid (fun (k : Nat) (hk : k < L.length) => show (a = some ⟨b, off, none⟩) ∧ ∃ ra rc lb lo, (0 < (bitsN L[k]).length → ra = some ⟨lb, lo, none⟩) ∧ ∀ W : World, Below w.heap.size w W → W.cell? ⟨b, off + k, none⟩ = some (.slice ra (bitsN L[k]).length rc) ∧ ∀ j (hj : j < (bitsN L[k]).length), W.cell? ⟨lb, lo + j, none⟩ = some (.int .i64 (((bitsN L[k])[j] : Nat) : Int)) from by
    obtain ⟨hf, hs⟩ := hc k (by simpa using hk)
    rw [List.getElem_map, bits_nats] at hs
    obtain ⟨ra, rc, hre⟩ := hs.slice
    obtain ⟨lb, lo, lcap, hle, hlc⟩ := hs.at_
    rw [natsI_len] at hre hle
    rw [hre] at hf
    refine ⟨(ha (by omega)).1, ra, rc, lb, lo, fun h0 => ?_, fun W hb => ⟨(hb.cell (p := ⟨b, off + k, none⟩) (cell_lt hf)).trans hf, fun j hj => ?_⟩⟩
    · have := hle h0; rw [hre] at this; simp only [Value.slice.injEq] at this; exact this.1
    · have h := hlc j (by rw [natsI_len]; exact hj)
      refine ((hb.cell (p := ⟨lb, lo + j, none⟩) (cell_lt h)).trans h).trans ?_
      simp only [natsI_get])
  clear hc
  go_enter Tryd.func45, Tryd.ntmps45
  go_wp2
  go_loopw [3, 4] (fun ov iv wr => ∃ k : Nat, k ≤ L.length ∧ iv = .int .i64 (k : Int) ∧ Own wr w.heap.size 2 1 ov k ((natsI (L.take k)).map (.int .i64)) ∧ Below w.heap.size w wr) (fun _ iv _ => L.length - (intOf iv).toNat)
  case atStart => exact ⟨0, Nat.zero_le _, rfl, ho0, hq0⟩
  case round =>
    clear ho0 hq0
    obtain ⟨k, hk, rfl, ho, hq⟩ := hrel
    obtain ⟨oa, oc, rfl⟩ := ho.isSlice
    by_cases hlt : k < L.length
    case neg =>
      obtain rfl : k = L.length := by omega
      rw [List.take_length] at ho
      go_wp2
      go_ret
      exact ⟨_, rfl, ho, hq⟩
    obtain ⟨rfl, ra, rc, lb, lo, hr1, hr2⟩ := HC.out k hlt
    have d1 := (hr2 wr hq).1
    have HR1 := Lib.hid hr1
    have HRC := Lib.hid (hr2 wr hq).2
    have hm := hL L[k] (List.getElem_mem hlt)
    have h32 : (bitsN L[k]).length ≤ 32 := popN_32 _
    have HLT := Lib.hid (fun j (hj : j ≤ (bitsN L[k]).length) => sumTo_lt hm hj)
    have HSA := Lib.hid (sumTo_all hm)
    have HSS := Lib.hid (fun j (hj : j < (bitsN L[k]).length) => sumTo_succ hj)
    have HB := Lib.hid (fun j (hj : j < (bitsN L[k]).length) => show (bitsN L[k])[j] ≤ 30 from by
      have h := (mem_bitsN (by omega)).1 (List.getElem_mem hj)
      have := bit_lt_of (n := 16) hm h
      omega)
    have HTK := Lib.hid (show natsI (L.take (k + 1)) = natsI (L.take k) ++ [((L[k] : Nat) : Int)] by rw [List.take_succ_eq_append_getElem hlt]; unfold natsI; rw [List.map_append]; rfl)
    have HS0 := Lib.hid (show sumTo (bitsN L[k]) 0 = 0 from rfl)
    clear hr1 hr2
    generalize hlk : bitsN L[k] = l at *
    generalize L[k] = m at *
    go_wp2
    go_loopw [5, 6] (fun bv jv wx => ∃ j : Nat, j ≤ l.length ∧ jv = .int .i64 (j : Int) ∧ bv = .int .i64 ((sumTo l j : Nat) : Int) ∧ Drawn wr wx) (fun _ jv _ => l.length - (intOf jv).toNat)
    case atStart => exact ⟨0, Nat.zero_le _, rfl, by rw [HS0.out]; rfl, Drawn.refl _⟩
    case round =>
      obtain ⟨j, hj, rfl, rfl, hd⟩ := hrel
      have d2 := (hd.cell _).trans d1
      have hs1 := HLT.out j hj
      by_cases hjl : j < l.length
      case neg =>
        obtain rfl : j = l.length := by omega
        have ho1 := ho.drawn hd
        have hq1 := hq.trans (hd.below _)
        have hB1 := hq1.size
        rw [HSA.out] at *
        go_wp2_with (at_builtin; refine wpList_append1 elI64 rfl _ _ rfl ho1 rfl rfl rfl (by omega) hB1 ?_; intro v2 w2 ho2 hk2 hm2; have hq2 := hk2.below hq1 hB1 (fun b hb => ho1.ge b hb))
        go_roundw
        case rel => exact ⟨k + 1, by omega, by go_num, by rw [HTK.out, List.map_append]; exact ho2, hq2⟩
        case measure => (simp [intOf]; omega)
      obtain rfl := HR1.out (by omega)
      have d3 := (hd.cell _).trans (HRC.out j hjl)
      have hb := fun W : World => l12Bit_any l[j] W (HB.out j hjl)
      have hs2 := HLT.out (j + 1) hjl
      have HSJ := Lib.hid (HSS.out j hjl)
      rw [HSJ.out] at hs2
      generalize l[j] = y at *
      generalize bit y = x at *
      generalize sumTo l j = z at *
      go_wp2_with (go_at_call 50; refine (hb _).mono ?_; rintro e w' ⟨rfl, rfl⟩)
      go_roundw
      case rel => exact ⟨j + 1, by omega, by go_num, by rw [HSJ.out]; go_num, by repeat (first | exact hd | refine Drawn.drewN ?_ _ | refine Drawn.drew ?_)⟩
      case measure => (simp [intOf]; omega)
def tabU (cs : List Nat) (n : Nat) : List Int := natsI ((List.range n).map (unionN cs))
theorem tabU_len (cs : List Nat) (n : Nat) : (tabU cs n).length = n := by simp [tabU, natsI]
theorem tabU_succ (cs : List Nat) (n : Nat) : tabU cs (n + 1) = tabU cs n ++ [((unionN cs n : Nat) : Int)] := by
  unfold tabU natsI
  rw [List.range_succ, List.map_append, List.map_append]; rfl
theorem tabU_get (cs : List Nat) (n k : Nat) (h : k < (tabU cs n).length) : (tabU cs n)[k] = ((unionN cs k : Nat) : Int) := by simp [tabU, natsI]
set_option maxHeartbeats 2000000 in
theorem l14Unions_any {S : Nat → Prop} {v : Value} {cs : List Nat} {w : World} (hv : SlI S w .i64 v (natsI cs)) (hm : cs.length ≤ 16) (hcs : ∀ k, cs.getD k 0 < 2 ^ 16) :
    Calls Tryd.prog 47 #[v] w fun e w' => ∃ u, e = .returned u ∧ Own w' w.heap.size 2 1 u (2 ^ cs.length) ((tabU cs (2 ^ cs.length)).map (.int .i64)) ∧ Below w.heap.size w w' := by
  have ho0 : Own (w.alloc (.cells #[.int .i64 0] 2)) w.heap.size 2 1 (.slice (some ⟨w.heap.size, 0, none⟩) 1 1) (2 ^ 0) ((tabU cs (2 ^ 0)).map (.int .i64)) := by
    have := World.ownsRow_lit (base := w.heap.size) (e := 2) (size := 1) w #[.int .i64 0] 1 (Nat.le_refl _) (by unfold maxLen; omega) rfl
    have e : (tabU cs (2 ^ 0)).map (Value.int .i64) = [.int .i64 0] := by
      rw [Nat.pow_zero, tabU_succ, union_zero]; rfl
    rw [e]
    simpa [Own] using this
  have hq0 : Below w.heap.size w (w.alloc (.cells #[.int .i64 0] 2)) := (Below.refl _ _).alloc (Nat.le_refl _) _
  have HV := Lib.hid (fun (W : World) (hb : Below w.heap.size w W) => hv.below hb (Nat.le_refl _))
  have HP := Lib.hid (fun (k : Nat) (hk : k < cs.length) => show 2 ^ (k + 1) = 2 ^ k + 2 ^ k ∧ 2 ^ k ≤ 32768 from ⟨by rw [Nat.pow_succ]; omega, by
    have : 2 ^ k ≤ 2 ^ 15 := Nat.pow_le_pow_right (by omega) (by omega)
    have e : (2 : Nat) ^ 15 = 32768 := by decide
    omega⟩)
  have HU := Lib.hid (fun (k j : Nat) (hk : k < cs.length) (hj : j < 2 ^ k) => show unionN cs (2 ^ k + j) = unionN cs j ||| cs.getD k 0 ∧ unionN cs j < 65536 ∧ cs.getD k 0 < 65536 from ⟨union_pow (i := k) (by omega) hj, unionN_lt hcs, hcs k⟩)
  obtain ⟨lb, lo, lcap, hle, hlc⟩ := hv.at_
  obtain ⟨va, vc, rfl⟩ := hv.slice
  rw [natsI_len] at *
  have HC := Lib.hid (fun (k : Nat) (hk : k < cs.length) => show va = some ⟨lb, lo, none⟩ ∧ ∀ W : World, Below w.heap.size w W → W.cell? ⟨lb, lo + k, none⟩ = some (.int .i64 ((cs.getD k 0 : Nat) : Int)) from ⟨by
    have := hle (by omega)
    simp only [Value.slice.injEq] at this; exact this.1, fun W hb => by
    have h := hlc k (by rw [natsI_len]; exact hk)
    refine ((hb.cell (p := ⟨lb, lo + k, none⟩) (cell_lt h)).trans h).trans ?_
    rw [natsI_get, List.getD_eq_getElem?_getD, List.getElem?_eq_getElem hk, Option.getD_some]⟩)
  clear hle hlc hv HV
  go_enter Tryd.func47, Tryd.ntmps47
  go_wp2
  go_loopw [3, 4] (fun ov iv wr => ∃ k : Nat, k ≤ cs.length ∧ iv = .int .i64 (k : Int) ∧ Own wr w.heap.size 2 1 ov (2 ^ k) ((tabU cs (2 ^ k)).map (.int .i64)) ∧ Below w.heap.size w wr) (fun _ iv _ => cs.length - (intOf iv).toNat)
  case atStart => exact ⟨0, Nat.zero_le _, rfl, ho0, hq0⟩
  case round =>
    clear ho0 hq0
    obtain ⟨k, hk, rfl, ho, hq⟩ := hrel
    obtain ⟨oa, oc, rfl⟩ := ho.isSlice
    by_cases hlt : k < cs.length
    case neg =>
      obtain rfl : k = cs.length := by omega
      generalize hn : 2 ^ cs.length = n at ho
      have HN := Lib.hid hn
      clear hn
      go_wp2
      go_ret
      have hn := HN.out
      subst hn
      exact ⟨_, rfl, ho, hq⟩
    obtain ⟨rfl, hr2⟩ := HC.out k hlt
    obtain ⟨hp1, hp2⟩ := HP.out k hlt
    have HUk := Lib.hid (fun j (hj : j < 2 ^ k) => HU.out k j hlt hj)
    have HCK := Lib.hid hr2
    have HP1 := Lib.hid hp1
    have hpp : 0 < 2 ^ k := Nat.two_pow_pos k
    clear hr2 hp1
    generalize hn : 2 ^ k = n at *
    have HN := Lib.hid hn
    clear hn
    generalize hM : cs.getD k 0 = M at *
    clear hM
    go_wp2
    go_loopw [3, 6] (fun ov jv wx => ∃ j : Nat, j ≤ n ∧ jv = .int .i64 (j : Int) ∧ Own wx w.heap.size 2 1 ov (n + j) ((tabU cs (n + j)).map (.int .i64)) ∧ Below w.heap.size w wx) (fun _ jv _ => n - (intOf jv).toNat)
    case atStart => exact ⟨0, Nat.zero_le _, rfl, ho, hq⟩
    case round =>
      clear ho hq
      obtain ⟨j, hj, rfl, ho, hq⟩ := hrel
      obtain ⟨oa, oc, rfl⟩ := ho.isSlice
      by_cases hjl : j < n
      case neg =>
        obtain rfl : j = n := by omega
        go_wp2
        go_roundw
        case rel => exact ⟨k + 1, by omega, by go_num, by rw [HP1.out]; exact ho, hq⟩
        case measure => (simp [intOf]; omega)
      obtain ⟨hu1, hu2, hu3⟩ := HUk.out j hjl
      have HS := Lib.hid (show (tabU cs (n + j)).map (Value.int .i64) ++ [.int .i64 ((unionN cs j ||| M : Nat) : Int)] = (tabU cs (n + j + 1)).map (Value.int .i64) by rw [tabU_succ, hu1, List.map_append]; rfl)
      clear hu1
      obtain ⟨ob, oc2, hoe⟩ := own_some ho (by omega)
      simp only [Value.slice.injEq] at hoe
      obtain ⟨rfl, -, rfl⟩ := hoe
      have c1 : wr.cell? ⟨lb, lo + k, none⟩ = some (.int .i64 (M : Int)) := HCK.out wr hq
      have c2 : wr.cell? ⟨ob, j, none⟩ = some (.int .i64 ((unionN cs j : Nat) : Int)) := by
        have h := World.ownsRow.cellAt ho j (by omega)
        have e : ((tabU cs (n + j)).map (Value.int .i64))[j]? = some (.int .i64 ((unionN cs j : Nat) : Int)) := by
          rw [List.getElem?_map, List.getElem?_eq_getElem (by rw [tabU_len]; omega), tabU_get]; rfl
        first | exact h.trans e | (rw [e] at h; simpa using h)
      have hor := i64_or_nat (unionN cs j) M (by omega) (by omega)
      have hB1 := hq.size
      generalize unionN cs j = y at *
      obtain ⟨wi, rfl⟩ : ∃ x : World, x = wr := ⟨_, rfl⟩
      have hj2 : (j : Int) < (n : Int) + (j : Int) := by omega
      have hj3 : (j : Int) < ((n + j : Nat) : Int) := by omega
      have hn0 : 0 < n := hpp
      go_wp2
      refine wp_region_held_drew (S := (fun _ => True)) (by kernel_rfl) ?_ (fun hHeld => ?_)
      · trivial
      have hbd : Below wi.heap.size wi wi.drew := ((Drawn.refl _).drew).below _
      generalize wi.drew = wd at hbd hHeld ⊢
      have e0 := (hbd.cell (cell_lt c1)).trans c1
      have e1 := (hbd.cell (cell_lt c2)).trans c2
      refine wpAnyH_take (i := 0) (v := ?v1) (by simp only [List.getElem?_toArray, List.getElem?_cons_zero]; exact rfl) (by kernel_rfl) (by kernel_rfl) (by kernel_rfl) (by intro _ _ _ h; exact h) (Or.inl ⟨by rfl, ?y1⟩) hHeld ?_
      case y1 => (intro w hSw; (try dsimp only at hSw); go_simp; try (with_reducible rfl))
      try simp only [Act.put, List.setIfInBounds_toArray, List.set_cons_zero, List.set_cons_succ]
      refine wpAnyH_take (i := 1) (v := ?v2) (by simp only [List.getElem?_toArray, List.getElem?_cons_succ, List.getElem?_cons_zero]; exact rfl) (by kernel_rfl) (by kernel_rfl) (by kernel_rfl) (by intro _ _ _ h; exact h) (Or.inl ⟨by rfl, ?y2⟩) hHeld ?_
      case y2 => (intro w hSw; (try dsimp only at hSw); go_simp; try (with_reducible rfl))
      try simp only [Act.put, List.setIfInBounds_toArray, List.set_cons_zero, List.set_cons_succ]
      refine wpAnyH_take (i := 2) (v := ?v3) (by simp only [List.getElem?_toArray, List.getElem?_cons_succ, List.getElem?_cons_zero]; exact rfl) (by kernel_rfl) (by kernel_rfl) (by kernel_rfl) (by intro _ _ _ h; exact h) (Or.inl ⟨by rfl, ?y3⟩) hHeld ?_
      case y3 => (intro w hSw; (try dsimp only at hSw); go_simp; try (with_reducible rfl))
      try simp only [Act.put, List.setIfInBounds_toArray, List.set_cons_zero, List.set_cons_succ]
      refine wpAnyH_take (i := 3) (v := ?v4) (by simp only [List.getElem?_toArray, List.getElem?_cons_succ, List.getElem?_cons_zero]; exact rfl) (by kernel_rfl) (by kernel_rfl) (by kernel_rfl) (by intro _ _ _ h; exact h) (Or.inl ⟨by rfl, ?y4⟩) hHeld ?_
      case y4 => (intro w hSw; (try dsimp only at hSw); go_simp; try (with_reducible rfl))
      try simp only [Act.put, List.setIfInBounds_toArray, List.set_cons_zero, List.set_cons_succ]
      refine wpAnyH_take (i := 5) (v := ?v5) (by simp only [List.getElem?_toArray, List.getElem?_cons_succ, List.getElem?_cons_zero]; exact rfl) (by kernel_rfl) (by kernel_rfl) (by kernel_rfl) (by intro _ _ _ h; exact h) (Or.inl ⟨by rfl, ?y5⟩) hHeld ?_
      case y5 => (intro w hSw; (try dsimp only at hSw); go_simp; try (with_reducible rfl))
      try simp only [Act.put, List.setIfInBounds_toArray, List.set_cons_zero, List.set_cons_succ]
      refine wpAnyH_take (i := 6) (v := ?v6) (by simp only [List.getElem?_toArray, List.getElem?_cons_succ, List.getElem?_cons_zero]; exact rfl) (by kernel_rfl) (by kernel_rfl) (by kernel_rfl) (by intro _ _ _ h; exact h) (Or.inl ⟨by rfl, ?y6⟩) hHeld ?_
      case y6 => (intro w hSw; (try dsimp only at hSw); go_simp; try (with_reducible rfl))
      try simp only [Act.put, List.setIfInBounds_toArray, List.set_cons_zero, List.set_cons_succ]
      refine wpAnyH_take (i := 7) (v := ?v7) (by simp only [List.getElem?_toArray, List.getElem?_cons_succ, List.getElem?_cons_zero]; exact rfl) (by kernel_rfl) (by kernel_rfl) (by kernel_rfl) (by intro _ _ _ h; exact h) (Or.inl ⟨by rfl, ?y7⟩) hHeld ?_
      case y7 => (intro w hSw; (try dsimp only at hSw); go_simp; try (with_reducible rfl))
      try simp only [Act.put, List.setIfInBounds_toArray, List.set_cons_zero, List.set_cons_succ]
      refine wpAnyH_ready (rs := [4, 8]) (by kernel_rfl) (by simp) ?_
      refine (AllReadyH.cons (by simp only [List.getElem?_toArray, List.getElem?_cons_succ, List.getElem?_cons_zero]; exact rfl) (fun K hK => ?b8_4) (AllReadyH.cons (by simp only [List.getElem?_toArray, List.getElem?_cons_succ, List.getElem?_cons_zero]; exact rfl) (fun K hK => ?b8_8) AllReadyH.nil))
      case b8_4 =>
        go_simp
        try dsimp only
        refine hK.out _ _ ?h9 (fun hHeld => ?_)
        case h9 => trivial
        clear hK K
        try simp only [Act.put, List.setIfInBounds_toArray, List.set_cons_zero, List.set_cons_succ]
        refine wpAnyH_ready (rs := [8]) (by kernel_rfl) (by simp) ?_
        refine AllReadyH.cons (by simp only [List.getElem?_toArray, List.getElem?_cons_succ, List.getElem?_cons_zero]; exact rfl) (fun K hK => ?_) AllReadyH.nil
        go_simp
        try dsimp only
        refine hK.out _ _ ?h11 (fun hHeld => ?_)
        case h11 => trivial
        clear hK K
        try simp only [Act.put, List.setIfInBounds_toArray, List.set_cons_zero, List.set_cons_succ]
        refine wpAnyH_take (i := 9) (v := ?v12) (by simp only [List.getElem?_toArray, List.getElem?_cons_succ, List.getElem?_cons_zero]; exact rfl) (by kernel_rfl) (by kernel_rfl) (by kernel_rfl) (by intro _ _ _ h; exact h) (Or.inl ⟨by rfl, ?y12⟩) hHeld ?_
        case y12 => (intro w hSw; (try dsimp only at hSw); go_simp; try (with_reducible rfl))
        try simp only [Act.put, List.setIfInBounds_toArray, List.set_cons_zero, List.set_cons_succ]
        refine wpAnyH_ready (rs := [10]) (by kernel_rfl) (by simp) ?_
        refine AllReadyH.cons (by simp only [List.getElem?_toArray, List.getElem?_cons_succ, List.getElem?_cons_zero]; exact rfl) (fun K hK => ?_) AllReadyH.nil
        go_simp
        obtain ⟨nb, hnb⟩ : ∃ nb, nb = wd.heap.size := ⟨_, rfl⟩
        rw [← hnb]
        try simp only [hor]
        have hbn : Below wd.heap.size wd (wd.alloc (.cells #[.int .i64 ((y ||| M : Nat) : Int)] 2)) := (Below.refl _ _).alloc (Nat.le_refl _) _
        have clit : (wd.alloc (.cells #[.int .i64 ((y ||| M : Nat) : Int)] 2)).cell? ⟨nb, 0, none⟩ = some (.int .i64 ((y ||| M : Nat) : Int)) := (by rw [hnb]; simp [go_sem])
        have hbd := hbd.trans (hbn.mono hbd.size)
        clear hnb hbn e0 e1
        generalize wd.alloc (.cells #[.int .i64 ((y ||| M : Nat) : Int)] 2) = wy at clit hbd ⊢
        obtain ⟨wd, rfl⟩ : ∃ x, x = wy := ⟨_, rfl⟩
        have e0 := (hbd.cell (cell_lt c1)).trans c1
        have e1 := (hbd.cell (cell_lt c2)).trans c2
        try dsimp only
        refine hK.out _ _ ?h14 (fun hHeld => ?_)
        case h14 => trivial
        clear hK K
        try simp only [Act.put, List.setIfInBounds_toArray, List.set_cons_zero, List.set_cons_succ]
        refine wpAnyH_ready (rs := [11]) (by kernel_rfl) (by simp) ?_
        refine AllReadyH.cons (by simp only [List.getElem?_toArray, List.getElem?_cons_succ, List.getElem?_cons_zero]; exact rfl) (fun K hK => ?_) AllReadyH.nil
        rw [if_pos (by rfl)]
        refine opWp_append1C elI64 _ _ rfl (ho.below hbd (Nat.le_refl _)) rfl rfl clit rfl (by omega) (Nat.le_trans hB1 hbd.size) ?_
        intro v3 wy ho3 hk3 hm3
        have hq3 := hk3.below (hq.trans (hbd.mono hB1)) (Nat.le_trans hB1 hbd.size) (fun b hb => ho.ge b hb)
        rw [HS.out] at ho3
        clear clit hk3 hm3 e0 e1
        try dsimp only
        refine hK.out _ _ ?h16 (fun hHeld => ?_)
        case h16 => trivial
        clear hK K
        try simp only [Act.put, List.setIfInBounds_toArray, List.set_cons_zero, List.set_cons_succ]
        refine wpAnyH_take (i := 12) (v := ?v17) (by simp only [List.getElem?_toArray, List.getElem?_cons_succ, List.getElem?_cons_zero]; exact rfl) (by kernel_rfl) (by kernel_rfl) (by kernel_rfl) (by intro _ _ _ h; exact h) (Or.inl ⟨by rfl, ?y17⟩) hHeld ?_
        case y17 => (intro w hSw; (try dsimp only at hSw); go_simp; try (with_reducible rfl))
        try simp only [Act.put, List.setIfInBounds_toArray, List.set_cons_zero, List.set_cons_succ]
        refine wpAnyH_done (by kernel_rfl) ?_ _
        clear hHeld c1 c2 ho
        obtain ⟨a3, c3, rfl⟩ := ho3.isSlice
        go_wp2
        go_roundw
        case rel => exact ⟨j + 1, by omega, by go_num, ho3, hq3⟩
        case measure => (simp [intOf]; omega)
      case b8_8 =>
        go_simp
        try dsimp only
        refine hK.out _ _ ?h18 (fun hHeld => ?_)
        case h18 => trivial
        clear hK K
        try simp only [Act.put, List.setIfInBounds_toArray, List.set_cons_zero, List.set_cons_succ]
        refine wpAnyH_ready (rs := [4]) (by kernel_rfl) (by simp) ?_
        refine AllReadyH.cons (by simp only [List.getElem?_toArray, List.getElem?_cons_succ, List.getElem?_cons_zero]; exact rfl) (fun K hK => ?_) AllReadyH.nil
        go_simp
        try dsimp only
        refine hK.out _ _ ?h20 (fun hHeld => ?_)
        case h20 => trivial
        clear hK K
        try simp only [Act.put, List.setIfInBounds_toArray, List.set_cons_zero, List.set_cons_succ]
        refine wpAnyH_take (i := 9) (v := ?v21) (by simp only [List.getElem?_toArray, List.getElem?_cons_succ, List.getElem?_cons_zero]; exact rfl) (by kernel_rfl) (by kernel_rfl) (by kernel_rfl) (by intro _ _ _ h; exact h) (Or.inl ⟨by rfl, ?y21⟩) hHeld ?_
        case y21 => (intro w hSw; (try dsimp only at hSw); go_simp; try (with_reducible rfl))
        try simp only [Act.put, List.setIfInBounds_toArray, List.set_cons_zero, List.set_cons_succ]
        refine wpAnyH_ready (rs := [10]) (by kernel_rfl) (by simp) ?_
        refine AllReadyH.cons (by simp only [List.getElem?_toArray, List.getElem?_cons_succ, List.getElem?_cons_zero]; exact rfl) (fun K hK => ?_) AllReadyH.nil
        go_simp
        obtain ⟨nb, hnb⟩ : ∃ nb, nb = wd.heap.size := ⟨_, rfl⟩
        rw [← hnb]
        try simp only [hor]
        have hbn : Below wd.heap.size wd (wd.alloc (.cells #[.int .i64 ((y ||| M : Nat) : Int)] 2)) := (Below.refl _ _).alloc (Nat.le_refl _) _
        have clit : (wd.alloc (.cells #[.int .i64 ((y ||| M : Nat) : Int)] 2)).cell? ⟨nb, 0, none⟩ = some (.int .i64 ((y ||| M : Nat) : Int)) := (by rw [hnb]; simp [go_sem])
        have hbd := hbd.trans (hbn.mono hbd.size)
        clear hnb hbn e0 e1
        generalize wd.alloc (.cells #[.int .i64 ((y ||| M : Nat) : Int)] 2) = wy at clit hbd ⊢
        obtain ⟨wd, rfl⟩ : ∃ x, x = wy := ⟨_, rfl⟩
        have e0 := (hbd.cell (cell_lt c1)).trans c1
        have e1 := (hbd.cell (cell_lt c2)).trans c2
        try dsimp only
        refine hK.out _ _ ?h23 (fun hHeld => ?_)
        case h23 => trivial
        clear hK K
        try simp only [Act.put, List.setIfInBounds_toArray, List.set_cons_zero, List.set_cons_succ]
        refine wpAnyH_ready (rs := [11]) (by kernel_rfl) (by simp) ?_
        refine AllReadyH.cons (by simp only [List.getElem?_toArray, List.getElem?_cons_succ, List.getElem?_cons_zero]; exact rfl) (fun K hK => ?_) AllReadyH.nil
        rw [if_pos (by rfl)]
        refine opWp_append1C elI64 _ _ rfl (ho.below hbd (Nat.le_refl _)) rfl rfl clit rfl (by omega) (Nat.le_trans hB1 hbd.size) ?_
        intro v3 wy ho3 hk3 hm3
        have hq3 := hk3.below (hq.trans (hbd.mono hB1)) (Nat.le_trans hB1 hbd.size) (fun b hb => ho.ge b hb)
        rw [HS.out] at ho3
        clear clit hk3 hm3 e0 e1
        try dsimp only
        refine hK.out _ _ ?h25 (fun hHeld => ?_)
        case h25 => trivial
        clear hK K
        try simp only [Act.put, List.setIfInBounds_toArray, List.set_cons_zero, List.set_cons_succ]
        refine wpAnyH_take (i := 12) (v := ?v26) (by simp only [List.getElem?_toArray, List.getElem?_cons_succ, List.getElem?_cons_zero]; exact rfl) (by kernel_rfl) (by kernel_rfl) (by kernel_rfl) (by intro _ _ _ h; exact h) (Or.inl ⟨by rfl, ?y26⟩) hHeld ?_
        case y26 => (intro w hSw; (try dsimp only at hSw); go_simp; try (with_reducible rfl))
        try simp only [Act.put, List.setIfInBounds_toArray, List.set_cons_zero, List.set_cons_succ]
        refine wpAnyH_done (by kernel_rfl) ?_ _
        clear hHeld c1 c2 ho
        obtain ⟨a3, c3, rfl⟩ := ho3.isSlice
        go_wp2
        go_roundw
        case rel => exact ⟨j + 1, by omega, by go_num, ho3, hq3⟩
        case measure => (simp [intOf]; omega)
theorem rest_sub {m s : Nat} (hm : m ≤ 16) (hs : s < 2 ^ m) : 2 ^ m - 1 - s = andN (firstN m) s := nat_ext fun i => by
  have hf := firstN_lt hm
  have : 2 ^ m ≤ 2 ^ 16 := Nat.pow_le_pow_right (by omega) hm
  have e : (2 : Nat) ^ 16 = 65536 := by decide
  rw [testBit_andN (by omega) (by omega), testBit_firstN, Nat.sub_sub, Nat.add_comm 1 s, Nat.testBit_two_pow_sub_succ hs]
theorem fit_eq {o c : Nat} (ho : o < 4294967296) (hc : c < 4294967296) : decide (o &&& c = o) = decide (andN o c = 0) := by
  rw [decide_eq_decide]
  constructor
  · intro h
    refine nat_ext fun i => ?_
    rw [testBit_andN ho hc, Nat.zero_testBit]
    have h2 := congrArg (fun x => x.testBit i) h
    simp only [Nat.testBit_and] at h2
    cases h3 : o.testBit i <;> simp [h3] at h2 ⊢
    exact h2
  · intro h
    refine nat_ext fun i => ?_
    have h2 := congrArg (fun x => x.testBit i) h
    simp only [testBit_andN ho hc, Nat.zero_testBit] at h2
    rw [Nat.testBit_and]
    cases h3 : o.testBit i <;> simp [h3] at h2 ⊢
    exact h2
set_option maxHeartbeats 2000000 in
theorem l14Fits_any {S1 S2 : Nat → Prop} {v u : Value} {cs : List Nat} {s k : Nat} {w : World} (hv : SlI S1 w .i64 v (natsI cs)) (hu : SlI S2 w .i64 u (tabU cs (2 ^ cs.length))) (hm : cs.length ≤ 16) (hcs : ∀ k, cs.getD k 0 < 2 ^ 16) (hs : s < 2 ^ cs.length) (hk : k < cs.length) :
    Calls Tryd.prog 49 #[v, u, .int .i64 (s : Int), .int .i64 (k : Int)] w fun e w' => e = .returned (.bool (!s.testBit k && fitC cs s k)) ∧ Drawn w w' := by
  have hp16 : 2 ^ cs.length ≤ 65536 := by
    have : 2 ^ cs.length ≤ 2 ^ 16 := Nat.pow_le_pow_right (by omega) hm
    have e : (2 : Nat) ^ 16 = 65536 := by decide
    omega
  have hrs := rest_sub hm hs
  obtain ⟨r, hr⟩ : ∃ r, r = 2 ^ cs.length - 1 - s := ⟨_, rfl⟩
  obtain ⟨A, hA⟩ : ∃ x, x = unionN cs s := ⟨_, rfl⟩
  obtain ⟨B, hB⟩ : ∃ x, x = unionN cs r := ⟨_, rfl⟩
  obtain ⟨C, hC⟩ : ∃ x, x = cs.getD k 0 := ⟨_, rfl⟩
  have hA2 : A < 65536 := hA ▸ unionN_lt hcs
  have hB2 : B < 65536 := hB ▸ unionN_lt hcs
  have hC2 : C < 65536 := hC ▸ hcs k
  have hAB : A &&& B < 4294967296 := Nat.lt_of_le_of_lt Nat.and_le_left (by omega)
  have HF := Lib.hid (show fitC cs s k = decide ((A &&& B) &&& C = A &&& B) by
    rw [fit_eq hAB (by omega)]; unfold fitC openN; rw [← hrs, ← hr, ← hA, ← hB, ← hC])
  have ⟨lb, lo, lcap, hle, hlc⟩ := hv.at_
  have ⟨ub, uo, ucap, hue, huc⟩ := hu.at_
  rw [natsI_len] at hle
  rw [tabU_len] at hue
  have hve := hle (by omega)
  have huu := hue (by omega)
  have c1 : w.cell? ⟨ub, uo + s, none⟩ = some (.int .i64 (A : Int)) := by
    have h := huc s (by rw [tabU_len]; exact hs)
    rw [tabU_get, ← hA] at h; exact h
  have c2 : w.cell? ⟨ub, uo + r, none⟩ = some (.int .i64 (B : Int)) := by
    have h := huc r (by rw [tabU_len]; omega)
    rw [tabU_get, ← hB] at h; exact h
  have c3 : w.cell? ⟨lb, lo + k, none⟩ = some (.int .i64 (C : Int)) := by
    have h := hlc k (by rw [natsI_len]; exact hk)
    rw [natsI_get] at h
    rw [hC, List.getD_eq_getElem?_getD, List.getElem?_eq_getElem hk, Option.getD_some]; exact h
  have hr2 : r < 2 ^ cs.length := by omega
  have hrI : (2 ^ cs.length : Nat) - (1 : Int) - (s : Int) = (r : Int) := by omega
  subst hve huu
  clear hle hlc hue huc hv hu hrs hA hB hC hr hcs
  have hb := fun W : World => l12Bit_any k W (by omega)
  have hbl : bit k < 4294967296 := bit_lt (by omega)
  have hand := i64_and_nat s (bit k) (by omega) hbl
  have hab := i64_and_nat A B (by omega) (by omega)
  have habc := i64_and_nat (A &&& B) C hAB (by omega)
  have hz := and_bit_zero (m := s) (v := k)
  rw [HF.out]
  generalize hn : 2 ^ cs.length = n at *
  clear hn HF
  generalize cs.length = m at *
  have hri : IntKind.i64.wrap ((n : Int) - 1) = (n : Int) - 1 := IntWalk.i64_in _ (by omega)
  have hrj : IntKind.i64.wrap ((n : Int) - 1 - (s : Int)) = (r : Int) := by rw [IntWalk.i64_in _ (by omega)]; omega
  have hrk : (n : Int) - 1 - (s : Int) = (r : Int) := by omega
  have HE := Lib.hid (show (((A &&& B &&& C : Nat) : Int) == ((A &&& B : Nat) : Int)) = (!false && decide (A &&& B &&& C = A &&& B)) by
    rw [Bool.not_false, Bool.true_and, Bool.eq_iff_iff, beq_iff_eq, decide_eq_true_eq]; omega)
  have hsI : (s : Int) < (n : Int) := by omega
  have hrw : IntKind.i64.wrap (r : Int) = (r : Int) := IntWalk.i64_in _ (by omega)
  have hr0 : (0 : Int) ≤ (r : Int) := by omega
  have hrT : ((r : Int)).toNat = r := by omega
  have hrI2 : (r : Int) < (n : Int) := by omega
  have hkI : (k : Int) < (m : Int) := by omega
  cases ht : s.testBit k
  · have h0 := hz.2 ht
    rw [h0] at hand
    clear hz ht h0
    generalize bit k = x at *
    go_enter Tryd.func49, Tryd.ntmps49
    go_wp2
    refine wp_region_held_drew (S := (fun w' => w'.cell? ⟨ub, uo + s, none⟩ = some (.int .i64 (A : Int)) ∧ w'.cell? ⟨ub, uo + r, none⟩ = some (.int .i64 (B : Int)))) (by kernel_rfl) ?_ (fun hHeld => ?_)
    · first | exact ⟨‹_›, ‹_›⟩ | (simp [*, go_sem])
    have hd : Drawn w w.drew := (Drawn.refl _).drew
    generalize w.drew = wd at hd hHeld ⊢
    have c4 := (hd.cell _).trans c3
    refine wpAnyH_take (i := 0) (v := ?v27) (by simp only [List.getElem?_toArray, List.getElem?_cons_zero]; exact rfl) (by kernel_rfl) (by kernel_rfl) (by kernel_rfl) (by intro _ _ _ h; exact h) (Or.inl ⟨by rfl, ?y27⟩) hHeld ?_
    case y27 => (intro w hSw; (try dsimp only at hSw); go_simp; try (with_reducible rfl))
    try simp only [Act.put, List.setIfInBounds_toArray, List.set_cons_zero, List.set_cons_succ]
    refine wpAnyH_take (i := 1) (v := ?v28) (by simp only [List.getElem?_toArray, List.getElem?_cons_succ, List.getElem?_cons_zero]; exact rfl) (by kernel_rfl) (by kernel_rfl) (by kernel_rfl) (by intro _ _ _ h; exact h) (Or.inl ⟨by rfl, ?y28⟩) hHeld ?_
    case y28 => (intro w hSw; (try dsimp only at hSw); go_simp; try (with_reducible rfl))
    try simp only [Act.put, List.setIfInBounds_toArray, List.set_cons_zero, List.set_cons_succ]
    refine wpAnyH_take (i := 2) (v := ?v29) (by simp only [List.getElem?_toArray, List.getElem?_cons_succ, List.getElem?_cons_zero]; exact rfl) (by kernel_rfl) (by kernel_rfl) (by kernel_rfl) (by intro _ _ _ h; exact h) (Or.inl ⟨by rfl, ?y29⟩) hHeld ?_
    case y29 => (intro w hSw; (try dsimp only at hSw); go_simp; try (with_reducible rfl))
    try simp only [Act.put, List.setIfInBounds_toArray, List.set_cons_zero, List.set_cons_succ]
    refine wpAnyH_take (i := 3) (v := ?v30) (by simp only [List.getElem?_toArray, List.getElem?_cons_succ, List.getElem?_cons_zero]; exact rfl) (by kernel_rfl) (by kernel_rfl) (by kernel_rfl) (by intro _ _ _ h; exact h) (Or.inl ⟨by rfl, ?y30⟩) hHeld ?_
    case y30 => (intro w hSw; (try dsimp only at hSw); go_simp; try (with_reducible rfl))
    try simp only [Act.put, List.setIfInBounds_toArray, List.set_cons_zero, List.set_cons_succ]
    refine wpAnyH_take (i := 4) (v := ?v31) (by simp only [List.getElem?_toArray, List.getElem?_cons_succ, List.getElem?_cons_zero]; exact rfl) (by kernel_rfl) (by kernel_rfl) (by kernel_rfl) (by intro _ _ _ h; exact h) (Or.inl ⟨by rfl, ?y31⟩) hHeld ?_
    case y31 => (intro w hSw; (try dsimp only at hSw); go_simp; try (with_reducible rfl))
    try simp only [Act.put, List.setIfInBounds_toArray, List.set_cons_zero, List.set_cons_succ]
    refine wpAnyH_take (i := 5) (v := ?v32) (by simp only [List.getElem?_toArray, List.getElem?_cons_succ, List.getElem?_cons_zero]; exact rfl) (by kernel_rfl) (by kernel_rfl) (by kernel_rfl) (by intro _ _ _ h; exact h) (Or.inl ⟨by rfl, ?y32⟩) hHeld ?_
    case y32 => (intro w hSw; (try dsimp only at hSw); go_simp; try (with_reducible rfl))
    try simp only [Act.put, List.setIfInBounds_toArray, List.set_cons_zero, List.set_cons_succ]
    refine wpAnyH_take (i := 6) (v := ?v33) (by simp only [List.getElem?_toArray, List.getElem?_cons_succ, List.getElem?_cons_zero]; exact rfl) (by kernel_rfl) (by kernel_rfl) (by kernel_rfl) (by intro _ _ _ h; exact h) (Or.inl ⟨by rfl, ?y33⟩) hHeld ?_
    case y33 => (intro w hSw; (try dsimp only at hSw); go_simp; try (with_reducible rfl))
    try simp only [Act.put, List.setIfInBounds_toArray, List.set_cons_zero, List.set_cons_succ]
    refine wpAnyH_take (i := 7) (v := ?v34) (by simp only [List.getElem?_toArray, List.getElem?_cons_succ, List.getElem?_cons_zero]; exact rfl) (by kernel_rfl) (by kernel_rfl) (by kernel_rfl) (by intro _ _ _ h; exact h) (Or.inl ⟨by rfl, ?y34⟩) hHeld ?_
    case y34 => (intro w hSw; (try dsimp only at hSw); go_simp; try (with_reducible rfl))
    try simp only [Act.put, List.setIfInBounds_toArray, List.set_cons_zero, List.set_cons_succ]
    refine wpAnyH_take (i := 8) (v := ?v35) (by simp only [List.getElem?_toArray, List.getElem?_cons_succ, List.getElem?_cons_zero]; exact rfl) (by kernel_rfl) (by kernel_rfl) (by kernel_rfl) (by intro _ _ _ h; exact h) (Or.inl ⟨by rfl, ?y35⟩) hHeld ?_
    case y35 => (intro w hSw; (try dsimp only at hSw); go_simp; try (with_reducible rfl))
    try simp only [Act.put, List.setIfInBounds_toArray, List.set_cons_zero, List.set_cons_succ]
    refine wpAnyH_take (i := 9) (v := ?v36) (by simp only [List.getElem?_toArray, List.getElem?_cons_succ, List.getElem?_cons_zero]; exact rfl) (by kernel_rfl) (by kernel_rfl) (by kernel_rfl) (by intro _ _ _ h; exact h) (Or.inl ⟨by rfl, ?y36⟩) hHeld ?_
    case y36 => (intro w hSw; (try dsimp only at hSw); go_simp; try (with_reducible rfl))
    try simp only [Act.put, List.setIfInBounds_toArray, List.set_cons_zero, List.set_cons_succ]
    refine wpAnyH_take (i := 10) (v := ?v37) (by simp only [List.getElem?_toArray, List.getElem?_cons_succ, List.getElem?_cons_zero]; exact rfl) (by kernel_rfl) (by kernel_rfl) (by kernel_rfl) (by intro _ _ _ h; exact h) (Or.inl ⟨by rfl, ?y37⟩) hHeld ?_
    case y37 => (intro w hSw; (try dsimp only at hSw); go_simp; try (with_reducible rfl))
    try simp only [Act.put, List.setIfInBounds_toArray, List.set_cons_zero, List.set_cons_succ]
    refine wpAnyH_take (i := 11) (v := ?v38) (by simp only [List.getElem?_toArray, List.getElem?_cons_succ, List.getElem?_cons_zero]; exact rfl) (by kernel_rfl) (by kernel_rfl) (by kernel_rfl) (by intro _ _ _ h; exact h) (Or.inl ⟨by rfl, ?y38⟩) hHeld ?_
    case y38 => (intro w hSw; (try dsimp only at hSw); go_simp; try (with_reducible rfl))
    try simp only [Act.put, List.setIfInBounds_toArray, List.set_cons_zero, List.set_cons_succ]
    refine wpAnyH_take (i := 12) (v := ?v39) (by simp only [List.getElem?_toArray, List.getElem?_cons_succ, List.getElem?_cons_zero]; exact rfl) (by kernel_rfl) (by kernel_rfl) (by kernel_rfl) (by intro _ _ _ h; exact h) (Or.inl ⟨by rfl, ?y39⟩) hHeld ?_
    case y39 => (intro w hSw; (try dsimp only at hSw); go_simp; try (with_reducible rfl))
    try simp only [Act.put, List.setIfInBounds_toArray, List.set_cons_zero, List.set_cons_succ]
    refine wpAnyH_take (i := 13) (v := ?v40) (by simp only [List.getElem?_toArray, List.getElem?_cons_succ, List.getElem?_cons_zero]; exact rfl) (by kernel_rfl) (by kernel_rfl) (by kernel_rfl) (by intro _ _ _ h; exact h) (Or.inl ⟨by rfl, ?y40⟩) hHeld ?_
    case y40 => (intro w hSw; (try dsimp only at hSw); go_simp; try (with_reducible rfl))
    try simp only [Act.put, List.setIfInBounds_toArray, List.set_cons_zero, List.set_cons_succ]
    refine wpAnyH_done (by kernel_rfl) ?_ _
    clear hHeld c1 c2 c3
    try simp only [hab]
    go_wp2_with (go_at_call 50; refine (hb _).mono ?_; rintro e w' ⟨rfl, rfl⟩)
    go_ret
    exact ⟨congrArg (fun b => Ending.returned (Value.bool b)) HE.out, hd⟩
  · have h0 : s &&& bit k ≠ 0 := fun h => by rw [hz.1 h] at ht; cases ht
    have h1 : (((s &&& bit k : Nat) : Int) == 0) = false := by rw [beq_eq_false_iff_ne]; omega
    have h2 : ((s &&& bit k) == 0) = false := by rw [beq_eq_false_iff_ne]; exact h0
    have h3 : s &&& bit k < 4294967296 := Nat.lt_of_le_of_lt Nat.and_le_left (by omega)
    clear hz ht
    generalize hxx : s &&& bit k = y at *
    clear hxx
    generalize bit k = x at *
    go_enter Tryd.func49, Tryd.ntmps49
    go_wp2
    refine wp_region_held_drew (S := (fun w' => w'.cell? ⟨ub, uo + s, none⟩ = some (.int .i64 (A : Int)) ∧ w'.cell? ⟨ub, uo + r, none⟩ = some (.int .i64 (B : Int)))) (by kernel_rfl) ?_ (fun hHeld => ?_)
    · first | exact ⟨‹_›, ‹_›⟩ | (simp [*, go_sem])
    have hd : Drawn w w.drew := (Drawn.refl _).drew
    generalize w.drew = wd at hd hHeld ⊢
    have c4 := (hd.cell _).trans c3
    refine wpAnyH_take (i := 0) (v := ?v41) (by simp only [List.getElem?_toArray, List.getElem?_cons_zero]; exact rfl) (by kernel_rfl) (by kernel_rfl) (by kernel_rfl) (by intro _ _ _ h; exact h) (Or.inl ⟨by rfl, ?y41⟩) hHeld ?_
    case y41 => (intro w hSw; (try dsimp only at hSw); go_simp; try (with_reducible rfl))
    try simp only [Act.put, List.setIfInBounds_toArray, List.set_cons_zero, List.set_cons_succ]
    refine wpAnyH_take (i := 1) (v := ?v42) (by simp only [List.getElem?_toArray, List.getElem?_cons_succ, List.getElem?_cons_zero]; exact rfl) (by kernel_rfl) (by kernel_rfl) (by kernel_rfl) (by intro _ _ _ h; exact h) (Or.inl ⟨by rfl, ?y42⟩) hHeld ?_
    case y42 => (intro w hSw; (try dsimp only at hSw); go_simp; try (with_reducible rfl))
    try simp only [Act.put, List.setIfInBounds_toArray, List.set_cons_zero, List.set_cons_succ]
    refine wpAnyH_take (i := 2) (v := ?v43) (by simp only [List.getElem?_toArray, List.getElem?_cons_succ, List.getElem?_cons_zero]; exact rfl) (by kernel_rfl) (by kernel_rfl) (by kernel_rfl) (by intro _ _ _ h; exact h) (Or.inl ⟨by rfl, ?y43⟩) hHeld ?_
    case y43 => (intro w hSw; (try dsimp only at hSw); go_simp; try (with_reducible rfl))
    try simp only [Act.put, List.setIfInBounds_toArray, List.set_cons_zero, List.set_cons_succ]
    refine wpAnyH_take (i := 3) (v := ?v44) (by simp only [List.getElem?_toArray, List.getElem?_cons_succ, List.getElem?_cons_zero]; exact rfl) (by kernel_rfl) (by kernel_rfl) (by kernel_rfl) (by intro _ _ _ h; exact h) (Or.inl ⟨by rfl, ?y44⟩) hHeld ?_
    case y44 => (intro w hSw; (try dsimp only at hSw); go_simp; try (with_reducible rfl))
    try simp only [Act.put, List.setIfInBounds_toArray, List.set_cons_zero, List.set_cons_succ]
    refine wpAnyH_take (i := 4) (v := ?v45) (by simp only [List.getElem?_toArray, List.getElem?_cons_succ, List.getElem?_cons_zero]; exact rfl) (by kernel_rfl) (by kernel_rfl) (by kernel_rfl) (by intro _ _ _ h; exact h) (Or.inl ⟨by rfl, ?y45⟩) hHeld ?_
    case y45 => (intro w hSw; (try dsimp only at hSw); go_simp; try (with_reducible rfl))
    try simp only [Act.put, List.setIfInBounds_toArray, List.set_cons_zero, List.set_cons_succ]
    refine wpAnyH_take (i := 5) (v := ?v46) (by simp only [List.getElem?_toArray, List.getElem?_cons_succ, List.getElem?_cons_zero]; exact rfl) (by kernel_rfl) (by kernel_rfl) (by kernel_rfl) (by intro _ _ _ h; exact h) (Or.inl ⟨by rfl, ?y46⟩) hHeld ?_
    case y46 => (intro w hSw; (try dsimp only at hSw); go_simp; try (with_reducible rfl))
    try simp only [Act.put, List.setIfInBounds_toArray, List.set_cons_zero, List.set_cons_succ]
    refine wpAnyH_take (i := 6) (v := ?v47) (by simp only [List.getElem?_toArray, List.getElem?_cons_succ, List.getElem?_cons_zero]; exact rfl) (by kernel_rfl) (by kernel_rfl) (by kernel_rfl) (by intro _ _ _ h; exact h) (Or.inl ⟨by rfl, ?y47⟩) hHeld ?_
    case y47 => (intro w hSw; (try dsimp only at hSw); go_simp; try (with_reducible rfl))
    try simp only [Act.put, List.setIfInBounds_toArray, List.set_cons_zero, List.set_cons_succ]
    refine wpAnyH_take (i := 7) (v := ?v48) (by simp only [List.getElem?_toArray, List.getElem?_cons_succ, List.getElem?_cons_zero]; exact rfl) (by kernel_rfl) (by kernel_rfl) (by kernel_rfl) (by intro _ _ _ h; exact h) (Or.inl ⟨by rfl, ?y48⟩) hHeld ?_
    case y48 => (intro w hSw; (try dsimp only at hSw); go_simp; try (with_reducible rfl))
    try simp only [Act.put, List.setIfInBounds_toArray, List.set_cons_zero, List.set_cons_succ]
    refine wpAnyH_take (i := 8) (v := ?v49) (by simp only [List.getElem?_toArray, List.getElem?_cons_succ, List.getElem?_cons_zero]; exact rfl) (by kernel_rfl) (by kernel_rfl) (by kernel_rfl) (by intro _ _ _ h; exact h) (Or.inl ⟨by rfl, ?y49⟩) hHeld ?_
    case y49 => (intro w hSw; (try dsimp only at hSw); go_simp; try (with_reducible rfl))
    try simp only [Act.put, List.setIfInBounds_toArray, List.set_cons_zero, List.set_cons_succ]
    refine wpAnyH_take (i := 9) (v := ?v50) (by simp only [List.getElem?_toArray, List.getElem?_cons_succ, List.getElem?_cons_zero]; exact rfl) (by kernel_rfl) (by kernel_rfl) (by kernel_rfl) (by intro _ _ _ h; exact h) (Or.inl ⟨by rfl, ?y50⟩) hHeld ?_
    case y50 => (intro w hSw; (try dsimp only at hSw); go_simp; try (with_reducible rfl))
    try simp only [Act.put, List.setIfInBounds_toArray, List.set_cons_zero, List.set_cons_succ]
    refine wpAnyH_take (i := 10) (v := ?v51) (by simp only [List.getElem?_toArray, List.getElem?_cons_succ, List.getElem?_cons_zero]; exact rfl) (by kernel_rfl) (by kernel_rfl) (by kernel_rfl) (by intro _ _ _ h; exact h) (Or.inl ⟨by rfl, ?y51⟩) hHeld ?_
    case y51 => (intro w hSw; (try dsimp only at hSw); go_simp; try (with_reducible rfl))
    try simp only [Act.put, List.setIfInBounds_toArray, List.set_cons_zero, List.set_cons_succ]
    refine wpAnyH_take (i := 11) (v := ?v52) (by simp only [List.getElem?_toArray, List.getElem?_cons_succ, List.getElem?_cons_zero]; exact rfl) (by kernel_rfl) (by kernel_rfl) (by kernel_rfl) (by intro _ _ _ h; exact h) (Or.inl ⟨by rfl, ?y52⟩) hHeld ?_
    case y52 => (intro w hSw; (try dsimp only at hSw); go_simp; try (with_reducible rfl))
    try simp only [Act.put, List.setIfInBounds_toArray, List.set_cons_zero, List.set_cons_succ]
    refine wpAnyH_take (i := 12) (v := ?v53) (by simp only [List.getElem?_toArray, List.getElem?_cons_succ, List.getElem?_cons_zero]; exact rfl) (by kernel_rfl) (by kernel_rfl) (by kernel_rfl) (by intro _ _ _ h; exact h) (Or.inl ⟨by rfl, ?y53⟩) hHeld ?_
    case y53 => (intro w hSw; (try dsimp only at hSw); go_simp; try (with_reducible rfl))
    try simp only [Act.put, List.setIfInBounds_toArray, List.set_cons_zero, List.set_cons_succ]
    refine wpAnyH_take (i := 13) (v := ?v54) (by simp only [List.getElem?_toArray, List.getElem?_cons_succ, List.getElem?_cons_zero]; exact rfl) (by kernel_rfl) (by kernel_rfl) (by kernel_rfl) (by intro _ _ _ h; exact h) (Or.inl ⟨by rfl, ?y54⟩) hHeld ?_
    case y54 => (intro w hSw; (try dsimp only at hSw); go_simp; try (with_reducible rfl))
    try simp only [Act.put, List.setIfInBounds_toArray, List.set_cons_zero, List.set_cons_succ]
    refine wpAnyH_done (by kernel_rfl) ?_ _
    clear hHeld c1 c2 c3
    try simp only [hab]
    go_wp2_with (go_at_call 50; refine (hb _).mono ?_; rintro e w' ⟨rfl, rfl⟩)
    go_ret
    exact ⟨rfl, hd⟩
/-- Whether one of the first cliques leads on. -/
def endC (cs : List Nat) (s j : Nat) : Bool := (List.range j).any fun k => (!s.testBit k && fitC cs s k) && canB cs (s ||| bit k)
theorem endC_zero (cs : List Nat) (s : Nat) : endC cs s 0 = false := rfl
theorem endC_succ (cs : List Nat) (s j : Nat) : endC cs s (j + 1) = (endC cs s j || ((!s.testBit j && fitC cs s j) && canB cs (s ||| bit j))) := by
  unfold endC
  rw [List.range_succ, List.any_append]; simp
theorem endC_all {cs : List Nat} {s : Nat} (hm : cs.length ≤ 16) (hs : s < 2 ^ cs.length) (hne : s ≠ firstN cs.length) : endC cs s cs.length = canB cs s := by
  rw [Bool.eq_iff_iff, canB_iff hm hs hne]
  unfold endC
  simp only [List.any_eq_true, List.mem_range, Bool.and_eq_true, Bool.not_eq_true']
  constructor
  · rintro ⟨k, h1, ⟨h2, h3⟩, h4⟩; exact ⟨k, h1, h2, h3, h4⟩
  · rintro ⟨k, h1, h2, h3, h4⟩; exact ⟨k, h1, ⟨h2, h3⟩, h4⟩
/-- Behind a first one, the rest is not looked at. -/
theorem endC_mono {cs : List Nat} {s j m : Nat} (h : endC cs s j = true) (hj : j ≤ m) : endC cs s m = true := by
  unfold endC at *
  simp only [List.any_eq_true, List.mem_range] at *
  obtain ⟨k, h1, h2⟩ := h
  exact ⟨k, by omega, h2⟩
theorem bit_lt_of2 {k : Nat} (hk : k < 16) : bit k < 65536 := by
  have : bit k ≤ bit 15 := Nat.pow_le_pow_right (by omega) (by omega)
  have e : bit 15 = 32768 := by decide
  omega
theorem add_or {s k : Nat} (hs : s < 65536) (hk : k < 16) (h : s.testBit k = false) : s + bit k = s ||| bit k := by
  have hb : bit k < 65536 := bit_lt_of2 hk
  have h2 : (BitVec.ofNat 32 s) &&& (BitVec.ofNat 32 (bit k)) = 0#32 := by
    apply BitVec.eq_of_toNat_eq
    rw [BitVec.toNat_and, BitVec.toNat_ofNat, BitVec.toNat_ofNat, Nat.mod_eq_of_lt (by omega), Nat.mod_eq_of_lt (by omega), and_bit_zero.2 h]; rfl
  have h3 := congrArg BitVec.toNat (BitVec.add_eq_or_of_and_eq_zero _ _ h2)
  rw [BitVec.toNat_add, BitVec.toNat_or, BitVec.toNat_ofNat, BitVec.toNat_ofNat, Nat.mod_eq_of_lt (show s < 2 ^ 32 by omega), Nat.mod_eq_of_lt (show bit k < 2 ^ 32 by omega), Nat.mod_eq_of_lt (by omega)] at h3
  exact h3
/-- A table of bools, the call's own. -/
def TabB (w : World) (B : Nat) (E : TypeId) (v : Value) (n : Nat) (T : Nat → Bool) : Prop := Own w B E 1 v n ((List.range n).map fun i => Value.bool (T i))
theorem TabB.cell {w : World} {B b c n : Nat} {E : TypeId} {T : Nat → Bool} (h : TabB w B E (.slice (some ⟨b, 0, none⟩) n c) n T) {i : Nat} (hi : i < n) : w.cell? ⟨b, i, none⟩ = some (.bool (T i)) := by
  have h2 := World.ownsRow.cellAt h i (by omega)
  have e : ((List.range n).map fun i => Value.bool (T i))[i]? = some (.bool (T i)) := by
    rw [List.getElem?_map, List.getElem?_range hi]; rfl
  first | exact h2.trans e | (rw [e] at h2; simpa using h2)
theorem TabB.ext {w : World} {B n : Nat} {v : Value} {E : TypeId} {T T' : Nat → Bool} (h : TabB w B E v n T) (he : ∀ i, i < n → T i = T' i) : TabB w B E v n T' := by
  unfold TabB at *
  rw [show ((List.range n).map fun i => Value.bool (T' i)) = (List.range n).map fun i => Value.bool (T i) from List.map_congr_left fun i hi => by rw [he i (List.mem_range.1 hi)]]
  exact h
theorem TabB.set {w : World} {B b c n v : Nat} {E : TypeId} {T : Nat → Bool} (h : TabB w B E (.slice (some ⟨b, 0, none⟩) n c) n T) (x : Bool) : TabB (w.setCell ⟨b, v, none⟩ (.bool x)) B E (.slice (some ⟨b, 0, none⟩) n c) n (fun i => if i = v then x else T i) := by
  have h2 := Own.stored h v (.bool x)
  unfold TabB
  have e : ((List.range n).map fun i => Value.bool (T i)).set v (.bool x) = (List.range n).map fun i => Value.bool (if i = v then x else T i) := by
    apply List.ext_getElem
    · simp
    · intro i h1 h3
      rw [List.getElem_set]
      simp only [List.getElem_map, List.getElem_range]
      by_cases hiv : v = i
      · subst hiv; simp
      · rw [if_neg hiv, if_neg (fun e => hiv e.symm)]
  rw [← e]; exact h2
def tabE (cs : List Nat) (p i : Nat) : Bool := decide (p ≤ i) && canB cs i
def tabF (cs : List Nat) (q j i : Nat) : Bool := if i = q then endC cs q j else decide (q < i) && canB cs i
theorem tabF_at (cs : List Nat) (q j : Nat) : tabF cs q j q = endC cs q j := by rw [tabF, if_pos rfl]
theorem tabF_zero (cs : List Nat) (q i : Nat) : tabE cs (q + 1) i = tabF cs q 0 i := by
  unfold tabE tabF
  by_cases h : i = q
  · subst h; rw [if_pos rfl, endC_zero, decide_eq_false (by omega)]; rfl
  · rw [if_neg h]; congr 1
theorem tabF_end {cs : List Nat} {q j : Nat} (h : endC cs q j = canB cs q) (i : Nat) : tabF cs q j i = tabE cs q i := by
  unfold tabE tabF
  by_cases h2 : i = q
  · subst h2; rw [if_pos rfl, h, decide_eq_true (Nat.le_refl _), Bool.true_and]
  · rw [if_neg h2]; congr 1; rw [decide_eq_decide]; omega
theorem tabF_next {cs : List Nat} {q j : Nat} {x : Bool} (h : endC cs q (j + 1) = x) (i : Nat) : (if i = q then x else tabF cs q j i) = tabF cs q (j + 1) i := by
  unfold tabF
  by_cases h2 : i = q
  · rw [if_pos h2, if_pos h2, h]
  · rw [if_neg h2, if_neg h2, if_neg h2]
theorem wpList_makeB {P : Program} (w : World) {ops : Array Oper} {rest : List Oper} {o : Oper} {a : Act} {Q : Exit → Act → World → Prop}
    (hg : o.guard = none) (l c : Operand) (t e : TypeId) (hop : o.op = Op.makeSlice t l c) (hE : Elem P t e 1 1 (.bool false)) (kl kc : IntKind) (n : Nat) (hl : a.eval l = .int kl (n : Int)) (hc : a.eval c = .int kc (n : Int)) (hn : n ≤ 1099511627)
    (hK : ∀ w', TabB w' w.heap.size e (.slice (some ⟨w.heap.size, 0, none⟩) n n) n (fun _ => false) → KeptBut w w' none → wpList P ops Q rest (a.put o.dst (.slice (some ⟨w.heap.size, 0, none⟩) n n)) w') :
    wpList P ops Q (o :: rest) a w := by
  obtain ⟨i, hi, hz⟩ := Option.map_eq_some_iff.1 hE.hi
  simp only [Prod.mk.injEq] at hz
  refine wpList_make_full w hg l c t hop w.heap.size e i (.bool false) 1 hE.ht hi hz.1 hz.2.1 kl kc _ _ n hl hc rfl rfl (by rw [hz.2.2]; omega) (by unfold maxLen; omega) (Nat.le_refl _) (fun w' h1 h2 => hK w' ?_ (.of_grown h2))
  unfold TabB
  have e : (madeCells (Value.bool false).cells (n * 1)).toList = (List.range n).map fun _ => Value.bool false := by
    rw [Nat.mul_one, show (Value.bool false).cells = #[Value.bool false] from rfl, toList_madeCells_one, List.map_const']; simp
  rw [e] at h1
  exact h1
set_option maxRecDepth 100000 in
set_option maxHeartbeats 4000000 in
theorem l14Ends_any {S1 S2 : Nat → Prop} {v u : Value} {cs : List Nat} {w : World} (hv : SlI S1 w .i64 v (natsI cs)) (hu : SlI S2 w .i64 u (tabU cs (2 ^ cs.length))) (hm : cs.length ≤ 16) (hcs : ∀ k, cs.getD k 0 < 2 ^ 16) :
    Calls Tryd.prog 48 #[v, u] w fun e w' => ∃ b, w.heap.size ≤ b ∧ e = .returned (.slice (some ⟨b, 0, none⟩) (2 ^ cs.length) (2 ^ cs.length)) ∧ TabB w' w.heap.size 4 (.slice (some ⟨b, 0, none⟩) (2 ^ cs.length) (2 ^ cs.length)) (2 ^ cs.length) (canB cs) ∧ Below w.heap.size w w' := by
  have hp16 : 2 ^ cs.length ≤ 65536 := by
    have : 2 ^ cs.length ≤ 2 ^ 16 := Nat.pow_le_pow_right (by omega) hm
    have e : (2 : Nat) ^ 16 = 65536 := by decide
    omega
  have hpp : 0 < 2 ^ cs.length := Nat.two_pow_pos _
  have HFI := Lib.hid (fun (W : World) (q k : Nat) (hb : Below w.heap.size w W) (hq : q < 2 ^ cs.length) (hk : k < cs.length) => l14Fits_any (hv.below hb (Nat.le_refl _)) (hu.below hb (Nat.le_refl _)) hm hcs hq hk)
  have HOR := Lib.hid (fun (q k : Nat) (hq : q < 2 ^ cs.length) (hk : k < cs.length) (h : q.testBit k = false) => show q + bit k = q ||| bit k ∧ q + bit k < 2 ^ cs.length ∧ q < q + bit k from by
    have h1 := add_or (by omega) (show k < 16 by omega) h
    exact ⟨h1, by rw [h1]; exact more_lt hq hk, by have : 0 < bit k := Nat.two_pow_pos k; omega⟩)
  have HEN := Lib.hid (fun (q : Nat) (hq : q < 2 ^ cs.length - 1) => endC_all hm (show q < 2 ^ cs.length by omega) (by unfold firstN; omega))
  have HMO := Lib.hid (fun (q j : Nat) (hj : j ≤ cs.length) (h : endC cs q j = true) => endC_mono h hj)
  have HAL := Lib.hid (show canB cs (2 ^ cs.length - 1) = true from canB_all cs)
  obtain ⟨va, vc, rfl⟩ := hv.slice
  obtain ⟨ua, uc, rfl⟩ := hu.slice
  rw [natsI_len] at *
  rw [tabU_len] at *
  clear hcs hv hu
  generalize hn : 2 ^ cs.length = n at *
  generalize hmm : cs.length = m at *
  clear hn hmm
  obtain ⟨n1, hn1⟩ : ∃ n1, n = n1 + 1 := ⟨n - 1, by omega⟩
  have hn1' : n - 1 = n1 := by omega
  rw [hn1'] at *
  have HN1 := Lib.hid hn1
  have hni : ((n : Nat) : Int) - 1 = (n1 : Int) := by omega
  have hni2 : (n1 : Int) + 1 = (n : Int) := by omega
  have hlt : n1 < n := by omega
  clear hn1 hn1'
  go_enter Tryd.func48, Tryd.ntmps48
  go_wp2_with (at_make; refine wpList_makeB _ rfl _ _ _ 4 rfl elMarksC .i64 .i64 n rfl rfl (by omega) ?_; intro w1 hT1 hk1; refine hold_in ?_)
  unfold HoldP
  have hq1 : Below w.heap.size w w1 := hk1.below (Below.refl _ _) (Nat.le_refl _) (fun b hb => by cases hb)
  have hf1 := World.ownsRow.frozenAt hT1 n1
  have hc1 := TabB.cell hT1 hlt
  have hT2 := TabB.set hT1 (v := n1) true
  have hq2 := (KeptBut.set w1 w.heap.size n1 (.bool true)).below hq1 hq1.size (fun b hb => by have e : w.heap.size = b := Option.some.inj hb; omega)
  have hT3 := hT2.ext (T' := tabE cs n1) (fun i hi => by
    have hn := HN1.out
    unfold tabE
    by_cases h : i = n1
    · have hal := HAL.out
      rw [show n - 1 = n1 by omega] at hal
      rw [if_pos h, h, decide_eq_true (Nat.le_refl _), hal]; rfl
    · rw [if_neg h, decide_eq_false (by omega)]; rfl)
  clear hT1 hT2 hq1 hk1
  go_wp2
  go_loopw [8] (fun bv wr => ∃ (p : Nat) (z : Int), p ≤ n1 ∧ bv = .int .i64 z ∧ z = (p : Int) - 1 ∧ TabB wr w.heap.size 4 (.slice (some ⟨w.heap.size, 0, none⟩) n n) n (tabE cs p) ∧ Below w.heap.size w wr) (fun bv _ => (intOf bv + 1).toNat)
  case atStart => exact ⟨n1, _, Nat.le_refl _, rfl, by omega, hT3, hq2⟩
  case round =>
    clear hT3 hq2 hf1 hc1
    obtain ⟨p, z, hp, rfl, hz, hT, hq⟩ := hrel
    by_cases h0 : p = 0
    · subst h0
      have hz0 : ¬ 0 ≤ z := by omega
      have hz1 : decide (0 ≤ z) = false := decide_eq_false hz0
      clear hz
      go_wp2
      go_ret
      exact ⟨_, Nat.le_refl _, rfl, hT.ext (fun i _ => by simp [tabE]), hq⟩
    obtain ⟨q, rfl⟩ : ∃ q, p = q + 1 := ⟨p - 1, by omega⟩
    obtain rfl : z = (q : Int) := by omega
    have hqn : q < n1 := hp
    have hqn2 : q < n := by omega
    have hT := hT.ext (fun i _ => tabF_zero cs q i)
    have HE2 := Lib.hid (HEN.out q (by omega))
    clear hz h0 hp
    go_wp2
    go_loopw [9] (fun kv wx => ∃ j : Nat, j ≤ m ∧ kv = .int .i64 (j : Int) ∧ TabB wx w.heap.size 4 (.slice (some ⟨w.heap.size, 0, none⟩) n n) n (tabF cs q j) ∧ Below w.heap.size w wx) (fun kv _ => m - (intOf kv).toNat)
    case atStart => exact ⟨0, Nat.zero_le _, rfl, hT, hq⟩
    case round =>
      clear hT hq
      obtain ⟨j, hj, rfl, hT, hq⟩ := hrel
      by_cases hjm : j < m
      case neg =>
        obtain rfl : j = m := by omega
        have hT2 := hT.ext (fun i _ => tabF_end HE2.out i)
        go_wp2
        go_roundw
        case rel => exact ⟨q, _, by omega, rfl, rfl, hT2, hq⟩
        case measure => (simp [intOf] <;> omega)
      have c1 := TabB.cell hT hqn2
      rw [tabF_at] at c1
      cases hec : endC cs q j with
      | true =>
        rw [hec] at c1
        have HX := Lib.hid (show endC cs q j = canB cs q from by rw [← HE2.out, HMO.out q j hj hec, hec])
        have hT2 := hT.ext (fun i _ => tabF_end HX.out i)
        clear hec
        go_wp2
        go_roundw
        case rel => exact ⟨q, _, by omega, rfl, rfl, hT2, hq⟩
        case measure => (simp [intOf] <;> omega)
      | false =>
        rw [hec] at c1
        have HES := Lib.hid (show endC cs q (j + 1) = ((!q.testBit j && fitC cs q j) && canB cs (q ||| bit j)) by rw [endC_succ, hec, Bool.false_or])
        have hfi := HFI.out wr q j hq hqn2 hjm
        have hb := fun W : World => l12Bit_any j W (by omega)
        have HORj := Lib.hid (HOR.out q j hqn2 hjm)
        clear hec
        obtain ⟨wi, rfl⟩ : ∃ x : World, x = wr := ⟨_, rfl⟩
        cases hfx : (!q.testBit j && fitC cs q j) with
        | false =>
          rw [hfx] at hfi
          have HES2 := Lib.hid (show endC cs q (j + 1) = false by rw [HES.out, hfx]; rfl)
          clear hfx
          go_wp2_with fail
          refine hfi.mono ?_
          rintro e w2 ⟨rfl, hd2⟩
          have hT2 := hT.drawn hd2
          have hq2 := hq.trans (hd2.below _)
          have c2 := (hd2.cell _).trans c1
          have hf2 := World.ownsRow.frozenAt hT2 q
          have hT3 := (TabB.set (v := q) hT2 false).ext (fun i _ => tabF_next HES2.out i)
          have hq3 := (KeptBut.set w2 w.heap.size q (.bool false)).below hq2 hq2.size (fun b hb => by have e : w.heap.size = b := Option.some.inj hb; omega)
          clear hfi hT
          go_wp2
          go_roundw
          case rel => exact ⟨j + 1, by omega, by go_num, hT3, hq3⟩
          case measure => (simp [intOf] <;> omega)
        | true =>
          rw [hfx] at hfi
          have htb : q.testBit j = false := by
            cases h : q.testBit j
            · rfl
            · rw [h] at hfx; cases hfx
          obtain ⟨ho1, ho2, ho3⟩ := HORj.out htb
          have HES2 := Lib.hid (show endC cs q (j + 1) = canB cs (q + bit j) by rw [HES.out, hfx, Bool.true_and, ho1])
          have HTC := Lib.hid (show tabF cs q j (q + bit j) = canB cs (q + bit j) by unfold tabF; rw [if_neg (by omega), decide_eq_true ho3, Bool.true_and])
          clear hfx htb HES HORj ho1
          go_wp2_with fail
          refine hfi.mono ?_
          rintro e w2 ⟨rfl, hd2⟩
          have hT2 := hT.drawn hd2
          have hq2 := hq.trans (hd2.below _)
          have c2 := (hd2.cell _).trans c1
          have hf2 := World.ownsRow.frozenAt hT2 q
          have c3 := TabB.cell hT2 ho2
          rw [HTC.out] at c3
          have hT3 := (TabB.set (v := q) hT2 (canB cs (q + bit j))).ext (fun i _ => tabF_next HES2.out i)
          have hq3 := (KeptBut.set w2 w.heap.size q (.bool (canB cs (q + bit j)))).below hq2 hq2.size (fun b hb => by have e : w.heap.size = b := Option.some.inj hb; omega)
          clear hfi hT HES2 HTC
          generalize canB cs (q + bit j) = y at *
          generalize bit j = x at *
          go_wp2_with (go_at_call 50; refine (hb _).mono ?_; rintro e w' ⟨rfl, rfl⟩)
          go_roundw
          case rel => exact ⟨j + 1, by omega, by go_num, hT3, hq3⟩
          case measure => (simp [intOf] <;> omega)
/-- None of the first cliques may stand next and leads on. -/
def NoG (cs : List Nat) (s k : Nat) : Prop := ∀ j, j < k → (!s.testBit j && fitC cs s j) = true → canB cs (s ||| bit j) = false
theorem pop_full {cs : List Nat} {s : Nat} (hm : cs.length ≤ 16) (hs : s < 2 ^ cs.length) (h : popN s = cs.length) : s = firstN cs.length :=
  Classical.byContradiction fun hne => by have := pop_lt hm hs hne; omega
theorem noG_end {cs : List Nat} {s : Nat} {r : List Nat} (hm : cs.length ≤ 16) (hs : s < 2 ^ cs.length) (hp : popN s < cs.length) (hr : lineG cs s = some r) (h : NoG cs s cs.length) : False := by
  have hne : s ≠ firstN cs.length := fun e => by rw [e, pop_first (by omega)] at hp; omega
  have hc : canB cs s = true := by unfold canB; rw [hr]; rfl
  obtain ⟨k, h1, h2, h3, h4⟩ := (canB_iff hm hs hne).1 hc
  have := h k h1 (by rw [h2, h3]; rfl)
  rw [h4] at this; cases this
theorem noG_next {cs : List Nat} {s k : Nat} (h : NoG cs s k) (h2 : (!s.testBit k && fitC cs s k) = true → canB cs (s ||| bit k) = false) : NoG cs s (k + 1) := fun j hj hf => by
  by_cases e : j = k
  · subst e; exact h2 hf
  · exact h j (by omega) hf
theorem noG_take {cs : List Nat} {s k : Nat} {r : List Nat} (hm : cs.length ≤ 16) (hs : s < 2 ^ cs.length) (hp : popN s < cs.length) (hr : lineG cs s = some r) (h : NoG cs s k) (hk : k < cs.length) (hf : (!s.testBit k && fitC cs s k) = true) (hc : canB cs (s ||| bit k) = true) :
    ∃ r', r = k :: r' ∧ lineG cs (s ||| bit k) = some r' ∧ popN (s ||| bit k) = popN s + 1 ∧ s ||| bit k < 2 ^ cs.length ∧ s + bit k = s ||| bit k := by
  have hp16 := pow_le16 hm
  have hne : s ≠ firstN cs.length := fun e => by rw [e, pop_first (by omega)] at hp; omega
  rw [Bool.and_eq_true, Bool.not_eq_true'] at hf
  obtain ⟨r', h1, h2⟩ := lineG_next hm hs hne hr hk hf.1 hf.2 hc (fun j hj h3 h4 => h j hj (by rw [h3, h4]; rfl))
  exact ⟨r', h1, h2, popN_add (by omega) (by omega) hf.1, more_lt hs hk, add_or (by omega) (by omega) hf.1⟩
theorem cliqO_some {g : List (List Int)} (hg : GOk g) (hp : (peo (netsL g)).isSome = true) : cliqO g = lineG (clqs (netsL g)) 0 := by
  unfold cliqO orderF; rw [if_pos (gokB_iff.2 hg), if_pos hp]
theorem cliqO_none1 {g : List (List Int)} (h : gokB g = false) : cliqO g = none := by unfold cliqO; rw [h]; rfl
theorem cliqO_none2 {g : List (List Int)} (h : (peo (netsL g)).isSome = false) : cliqO g = none := by unfold cliqO orderF; rw [h]; simp
set_option maxRecDepth 100000 in
set_option maxHeartbeats 8000000 in
theorem specCliqueOrder_any {S : Nat → Prop} {v : Value} {g : List (List Int)} {w : World} (hv : SlR S w v g) :
    Calls Tryd.prog 18 #[.agg #[v]] w fun e w' => ∃ u, e = .returned (.tuple #[u, .bool (cliqO g).isSome]) ∧ SlI (fun b => w.heap.size ≤ b ∧ b < w'.heap.size) w' .i64 u (natsI ((cliqO g).getD [])) ∧ Below w.heap.size w w' := by
  have hq0 : Below w.heap.size w (w.alloc (.cells #[v] 29)) := (Below.refl _ _).alloc (Nat.le_refl _) _
  have hgo := specGraphOk_any _ _ _ (hv.below hq0 (Nat.le_refl _))
  have HNIL := Lib.hid (fun (W : World) (hb : w.heap.size ≤ W.heap.size) => show SlI (fun b => w.heap.size ≤ b ∧ b < (W.alloc (.cells #[] 2)).heap.size) (W.alloc (.cells #[] 2)) .i64 (.slice (some ⟨W.heap.size, 0, none⟩) 0 0) [] from
    (SlI.lit0V W).weak fun b hb2 => by subst hb2; exact ⟨hb, by simp⟩)
  obtain ⟨va, vc, rfl⟩ := hv.slice
  have c0 : (w.alloc (.cells #[.slice va g.length vc] 29)).cell? ⟨w.heap.size, 0, none⟩ = some (.slice va g.length vc) := by simp [go_sem]
  cases hgb : gokB g with
  | false =>
    rw [hgb] at hgo
    have HO := Lib.hid (cliqO_none1 hgb)
    clear hgb hv
    go_enter Tryd.func18, Tryd.ntmps18
    go_wp2_with fail
    refine hgo.mono ?_
    rintro e w1 ⟨rfl, hb1⟩
    have hq1 := hq0.trans (hb1.mono hq0.size)
    have hn := HNIL.out w1 hq1.size
    have hq2 := hq1.alloc hq1.size (.cells #[] 2)
    go_wp2
    go_ret2
    rw [HO.out]
    exact ⟨_, rfl, hn, hq2⟩
  | true =>
    have hg := gokB_iff.1 hgb
    rw [hgb] at hgo
    have HCH := Lib.hid (fun (W : World) (hb : Below w.heap.size w W) => specChordalInC_any (hv.below hb (Nat.le_refl _)))
    have HCQ := Lib.hid (fun (W : World) (hb : Below w.heap.size w W) => specCliquesOf_any hg (hv.below hb (Nat.le_refl _)))
    rw [hgb] at HCH
    cases hp : (peo (netsL g)).isSome with
    | false =>
      have HO := Lib.hid (cliqO_none2 hp)
      rw [hp] at HCH
      clear hp hgb hv HCQ hg
      go_enter Tryd.func18, Tryd.ntmps18
      go_wp2_with fail
      refine hgo.mono ?_
      rintro e w1 ⟨rfl, hb1⟩
      have hq1 := hq0.trans (hb1.mono hq0.size)
      have c1 := (hb1.cell (cell_lt c0)).trans c0
      go_wp2_with fail
      refine (HCH.out w1 hq1).mono ?_
      rintro e w2 ⟨rfl, hb2⟩
      have hq2 := hq1.trans (hb2.mono hq1.size)
      have hn := HNIL.out w2 hq2.size
      have hq3 := hq2.alloc hq2.size (.cells #[] 2)
      clear hgo
      go_wp2
      go_ret2
      rw [HO.out]
      exact ⟨_, rfl, hn, hq3⟩
    | true =>
      rw [hp] at HCH
      have HO := Lib.hid (cliqO_some hg hp)
      have hne : peo (netsL g) ≠ none := fun e => by rw [e] at hp; cases hp
      have hm : (clqs (netsL g)).length ≤ 16 := by have := (clqs_net hg).2.2.2 hne; rw [netsL_len] at this; exact Nat.le_trans this hg.hi
      have hcs := clqs_getD16 hg
      have hcl := clqs_lt16 hg
      have HNE := Lib.hid hne
      clear hp hgb hv hne
      generalize clqs (netsL g) = cs at *
      go_enter Tryd.func18, Tryd.ntmps18
      go_wp2_with fail
      refine hgo.mono ?_
      rintro e w1 ⟨rfl, hb1⟩
      have hq1 := hq0.trans (hb1.mono hq0.size)
      have c1 := (hb1.cell (cell_lt c0)).trans c0
      clear hgo hq0 c0 hb1
      go_wp2_with fail
      refine (HCH.out w1 hq1).mono ?_
      rintro e w2 ⟨rfl, hb2⟩
      have hq2 := hq1.trans (hb2.mono hq1.size)
      have c2 := (hb2.cell (cell_lt c1)).trans c1
      clear hq1 c1 hb2
      go_wp2_with fail
      refine (HCQ.out w2 hq2).mono ?_
      rintro e w3 ⟨u3, rfl, hu3, hb3⟩
      have hq3 := hq2.trans (hb3.mono hq2.size)
      clear hq2 c2 hb3
      go_wp2_with fail
      refine (l14Masks_any hu3 hcl (by omega)).mono ?_
      rintro e w4 ⟨u4, rfl, ho4, hb4⟩
      have hq4 := hq3.trans (hb4.mono hq3.size)
      have hi4 := ho4.ints (by omega)
      clear hq3 hb4 hu3
      go_wp2_with fail
      refine (l14Unions_any hi4 hm hcs).mono ?_
      rintro e w5 ⟨u5, rfl, ho5, hb5⟩
      have hq5 := hq4.trans (hb5.mono hq4.size)
      have hi5a := hi4.below hb5 (Nat.le_refl _)
      have hp16 := pow_le16 hm
      have hi5 := ho5.ints (by omega)
      clear hq4 hb5 hi4 ho5 ho4
      go_wp2_with fail
      refine (l14Ends_any hi5a hi5 hm hcs).mono ?_
      rintro e w6 ⟨b6, hb6g, rfl, hT6, hb6⟩
      have hq6 := hq5.trans (hb6.mono hq5.size)
      have hs5 := hq5.size
      have hi6a := hi5a.below hb6 (Nat.le_refl _)
      have hi6 := hi5.below hb6 (Nat.le_refl _)
      have hpp : 0 < 2 ^ cs.length := Nat.two_pow_pos _
      have c6 := TabB.cell hT6 hpp
      clear hq5 hb6 hi5 hi5a
      cases hcn : canB cs 0 with
      | false =>
        have HO2 := Lib.hid (show cliqO g = none by
          rw [HO.out]
          unfold canB at hcn
          cases h : lineG cs 0 with
          | none => rfl
          | some r => rw [h] at hcn; cases hcn)
        rw [hcn] at c6
        have hn := HNIL.out w6 hq6.size
        have hq7 := hq6.alloc hq6.size (.cells #[] 2)
        clear hcn HO hT6
        generalize 2 ^ cs.length = n at *
        go_wp2
        go_ret2
        rw [HO2.out]
        exact ⟨_, rfl, hn, hq7⟩
      | true =>
        rw [hcn] at c6
        obtain ⟨r0, hr0⟩ : ∃ r, lineG cs 0 = some r := by
          unfold canB at hcn
          cases h : lineG cs 0 with
          | none => rw [h] at hcn; cases hcn
          | some r => exact ⟨r, rfl⟩
        have HO2 := Lib.hid (HO.out.trans hr0)
        have HR0 := Lib.hid (show lineG cs 0 = some r0 ∧ r0 = [] ++ r0 from ⟨hr0, rfl⟩)
        have HFI := Lib.hid (fun (W : World) (q k : Nat) (hb : Below w6.heap.size w6 W) (hq : q < 2 ^ cs.length) (hk : k < cs.length) => l14Fits_any (hi6a.below hb (Nat.le_refl _)) (hi6.below hb (Nat.le_refl _)) hm hcs hq hk)
        have HTC := Lib.hid (fun (W : World) (hb : Below w6.heap.size w6 W) (i : Nat) (hi : i < 2 ^ cs.length) => (hb.cell (cell_lt (TabB.cell hT6 hi))).trans (TabB.cell hT6 hi))
        have HND := Lib.hid (fun (s : Nat) (r : List Nat) (h1 : s < 2 ^ cs.length) (h2 : popN s < cs.length) (h3 : lineG cs s = some r) (h4 : NoG cs s cs.length) => noG_end hm h1 h2 h3 h4)
        have HTK := Lib.hid (fun (s k : Nat) (r : List Nat) (h1 : s < 2 ^ cs.length) (h2 : popN s < cs.length) (h3 : lineG cs s = some r) (h4 : NoG cs s k) (h5 : k < cs.length) (h6 : (!s.testBit k && fitC cs s k) = true) (h7 : canB cs (s ||| bit k) = true) => noG_take hm h1 h2 h3 h4 h5 h6 h7)
        have HFU := Lib.hid (fun (s : Nat) (r : List Nat) (h1 : s < 2 ^ cs.length) (h2 : popN s = cs.length) (h3 : lineG cs s = some r) => show r = [] from by
          rw [pop_full hm h1 h2, lineG_all] at h3; exact (Option.some.inj h3).symm)
        have HP0 := Lib.hid ((popN_zero (m := 0) (by omega)).2 rfl)
        have HLT := Lib.hid (fun (s k : Nat) (h1 : s < 2 ^ cs.length) (h2 : k < cs.length) (h3 : s.testBit k = false) => show s + bit k < 2 ^ cs.length ∧ s + bit k = s ||| bit k from by
          rw [add_or (by omega) (by omega) h3]; exact ⟨more_lt h1 h2, rfl⟩)
        obtain ⟨a5, c5, rfl⟩ := hi6.slice
        obtain ⟨a4, c4, rfl⟩ := hi6a.slice
        rw [natsI_len] at *
        rw [tabU_len] at *
        have ho7 : Own (w6.alloc (.cells #[] 2)) w6.heap.size 2 1 (.slice (some ⟨w6.heap.size, 0, none⟩) 0 0) ([] : List Nat).length ((natsI []).map (.int .i64)) := by
          have := World.ownsRow_lit (base := w6.heap.size) (e := 2) (size := 1) w6 #[] 0 (Nat.le_refl _) (by unfold maxLen; omega) rfl
          simpa [Own, natsI] using this
        have hb7 : Below w6.heap.size w6 (w6.alloc (.cells #[] 2)) := (Below.refl _ _).alloc (Nat.le_refl _) _
        clear hcn HO hT6 hr0 hi6 hi6a hcs hcl
        generalize 2 ^ cs.length = n at *
        generalize cs.length = m at *
        go_wp2
        go_loopw [7, 8] (fun ov bv wr => ∃ (o : List Nat) (s : Nat) (r : List Nat), o.length ≤ m ∧ s < n ∧ RowKit.Hid (popN s = o.length) ∧ RowKit.Hid (lineG cs s = some r ∧ r0 = o ++ r) ∧ bv = .int .i64 (s : Int) ∧ Own wr w6.heap.size 2 1 ov o.length ((natsI o).map (.int .i64)) ∧ Below w6.heap.size w6 wr) (fun ov _ _ => m - sliceLen ov)
        case atStart => exact ⟨[], 0, r0, Nat.zero_le _, hpp, HP0, HR0, rfl, ho7, hb7⟩
        case round =>
          clear ho7 hb7 HP0 HR0 c6
          obtain ⟨o, s, r, hol, hsn, HPS, HLR, rfl, ho, hb⟩ := hrel
          obtain ⟨oa, oc, rfl⟩ := ho.isSlice
          by_cases hlt : o.length < m
          case neg =>
            have hoe : o.length = m := by omega
            have HF := Lib.hid (show r0 = o by
              have h1 := HFU.out s r hsn (HPS.out.trans hoe) HLR.out.1
              rw [HLR.out.2, h1, List.append_nil])
            have hqf := hq6.trans (hb.mono hq6.size)
            clear hoe
            go_wp2
            go_ret2
            rw [HO2.out, HF.out]
            exact ⟨_, rfl, (ho.ints (by omega)).weak fun b hb2 => ⟨Nat.le_trans hq6.size (ho.lt b hb2).1, (ho.lt b hb2).2⟩, hqf⟩
          have HN0 : RowKit.Hid (NoG cs s 0) := Lib.hid (fun j hj => by omega)
          obtain ⟨wo, rfl⟩ : ∃ x : World, x = wr := ⟨_, rfl⟩
          go_wp2
          go_loopw [7, 8, 9] (fun ov bv kv wx => ∃ k : Nat, k ≤ m ∧ kv = .int .i64 (k : Int) ∧ ov = .slice oa o.length oc ∧ bv = .int .i64 (s : Int) ∧ RowKit.Hid (NoG cs s k) ∧ Drawn wo wx) (fun _ _ kv _ => m - (RowKit.intOf kv).toNat)
          case atStart => exact ⟨0, Nat.zero_le _, rfl, rfl, rfl, HN0, Drawn.refl _⟩
          case round =>
            clear HN0
            obtain ⟨k, hk, rfl, rfl, rfl, HN, hd⟩ := hrel
            by_cases hkm : k < m
            case neg =>
              obtain rfl : k = m := by omega
              exact (HND.out s r hsn (by rw [HPS.out]; exact hlt) HLR.out.1 HN.out).elim
            have hbx := hb.trans (hd.below _)
            have hfi := HFI.out wr s k hbx hsn hkm
            have hbi := fun W : World => l12Bit_any k W (by omega)
            obtain ⟨wi, rfl⟩ : ∃ x : World, x = wr := ⟨_, rfl⟩
            cases hfx : (!s.testBit k && fitC cs s k) with
            | false =>
              rw [hfx] at hfi
              have HN2 := Lib.hid (noG_next HN.out (fun h => by rw [hfx] at h; cases h))
              clear hfx
              go_wp2_with fail
              refine hfi.mono ?_
              rintro e w2 ⟨rfl, hd2⟩
              have hd3 := hd.trans hd2
              clear hfi
              go_wp2
              go_roundw
              case rel => exact ⟨k + 1, by omega, by go_num, rfl, rfl, HN2, hd3⟩
              case measure => (simp [RowKit.intOf] <;> omega)
            | true =>
              rw [hfx] at hfi
              have htb : s.testBit k = false := by
                cases h : s.testBit k
                · rfl
                · rw [h] at hfx; cases hfx
              obtain ⟨hl1, hl2⟩ := HLT.out s k hsn hkm htb
              have HL2 := Lib.hid hl2
              have hc1 := fun (W : World) (hb : Below w6.heap.size w6 W) => HTC.out W hb (s + bit k) hl1
              cases hcb : canB cs (s ||| bit k) with
              | false =>
                have HN2 := Lib.hid (noG_next HN.out (fun _ => hcb))
                rw [HL2.out, hcb] at hc1
                rw [← HL2.out] at hc1
                clear hfx htb hl2 hcb HL2
                go_wp2_with fail
                refine hfi.mono ?_
                rintro e w2 ⟨rfl, hd2⟩
                have hd3 := hd.trans hd2
                have c2 := hc1 w2 (hb.trans (hd3.below _))
                clear hfi hc1
                generalize bit k = x at *
                go_wp2_with (go_at_call 50; refine (hbi _).mono ?_; rintro e w' ⟨rfl, rfl⟩)
                go_roundw
                case rel => exact ⟨k + 1, by omega, by go_num, rfl, rfl, HN2, hd3⟩
                case measure => (simp [RowKit.intOf] <;> omega)
              | true =>
                obtain ⟨r', h1, h2, h3, h4, h5⟩ := HTK.out s k r hsn (by rw [HPS.out]; exact hlt) HLR.out.1 HN.out hkm hfx hcb
                have HPS2 := Lib.hid (show popN (s + bit k) = (o ++ [k]).length by rw [h5, h3, HPS.out]; simp)
                have HLR2 := Lib.hid (show lineG cs (s + bit k) = some r' ∧ r0 = (o ++ [k]) ++ r' by rw [h5]; exact ⟨h2, by rw [HLR.out.2, h1, List.append_assoc]; rfl⟩)
                have HOL := Lib.hid (show (o ++ [k]).length ≤ m ∧ (natsI o).map (Value.int .i64) ++ [.int .i64 (k : Int)] = (natsI (o ++ [k])).map (.int .i64) ∧ o.length + 1 = (o ++ [k]).length by
                  refine ⟨by simp; omega, ?_, by simp⟩
                  unfold natsI; simp)
                rw [HL2.out, hcb] at hc1
                rw [← HL2.out] at hc1
                clear hfx htb hl2 hcb HL2 h1 h2 h3 h4 h5
                go_wp2_with fail
                refine hfi.mono ?_
                rintro e w2 ⟨rfl, hd2⟩
                have hd3 := hd.trans hd2
                have hb2 := hb.trans (hd3.below _)
                have c2 := hc1 w2 hb2
                have ho2 := ho.drawn hd3
                have hB2 := hb2.size
                clear hfi hc1
                generalize bit k = x at *
                go_wp2_with (first | (go_at_call 50; refine (hbi _).mono ?_; rintro e w' ⟨rfl, rfl⟩) | (at_builtin; refine wpList_append1 elI64 rfl _ _ rfl ho2 rfl rfl rfl (by omega) hB2 ?_; intro v3 w3 ho3 hk3 hm3; have hb3 := hk3.below hb2 hB2 (fun b hb => ho2.ge b hb)))
                rw [HOL.out.2.1, HOL.out.2.2] at ho3
                obtain ⟨a3, c3, rfl⟩ := ho3.isSlice
                go_roundw
                case rel => exact ⟨o ++ [k], s + x, r', HOL.out.1, hl1, HPS2, HLR2, congrArg (Value.int .i64) (Int.natCast_add s x).symm, ho3, hb3⟩
                case measure =>
                  have h9 : o.length + 1 = (o ++ [k]).length := HOL.out.2.2
                  show m - (o ++ [k]).length < m - o.length
                  exact Nat.sub_lt_sub_left hlt (by rw [← h9]; exact Nat.lt_succ_self _)

set_option maxHeartbeats 2000000 in
theorem specIntervalIn_any {S : Nat → Prop} {v : Value} {g : List (List Int)} {w : World} (hv : SlR S w v g) :
    Calls Tryd.prog 16 #[.agg #[v]] w fun e w' => e = .returned (.bool (cliqO g).isSome) ∧ Below w.heap.size w w' := by
  have hq0 : Below w.heap.size w (w.alloc (.cells #[v] 29)) := (Below.refl _ _).alloc (Nat.le_refl _) _
  have hpo := specCliqueOrder_any (hv.below hq0 (Nat.le_refl _))
  obtain ⟨va, vc, rfl⟩ := hv.slice
  generalize (cliqO g).isSome = b at *
  go_enter Tryd.func16, Tryd.ntmps16
  go_wp2_with fail
  refine hpo.mono ?_
  rintro e w1 ⟨u, rfl, -, hb1⟩
  go_wp2
  go_ret
  exact ⟨rfl, hq0.trans (hb1.mono hq0.size)⟩
theorem cliqO_fit {g : List (List Int)} {r : List Nat} (h : cliqO g = some r) : r.length ≤ 16 := by
  unfold cliqO at h
  split at h
  case isFalse => cases h
  case isTrue hg =>
    have hg := gokB_iff.1 hg
    unfold orderF at h
    split at h
    case isFalse => cases h
    case isTrue hp =>
      have hne : peo (netsL g) ≠ none := fun e => by rw [e] at hp; cases hp
      have hm : (clqs (netsL g)).length ≤ 16 := by have := (clqs_net hg).2.2.2 hne; rw [netsL_len] at this; exact Nat.le_trans this hg.hi
      exact (lineF_len hm (Nat.two_pow_pos _) h).1
theorem cliqO_len (g : List (List Int)) : (natsI ((cliqO g).getD [])).length ≤ 1048576 := by
  rw [natsI_len]
  cases h : cliqO g with
  | none => simp
  | some r => have := cliqO_fit h; simp; omega
theorem cliqO_ok {g : List (List Int)} (hg : gokB g = true) : cliqO g = orderF g := by unfold cliqO; rw [if_pos hg]
set_option maxRecDepth 100000 in
set_option maxHeartbeats 4000000 in
theorem implCliqueOrder_any {S : Nat → Prop} {v : Value} {g : List (List Int)} {w : World} (ht : Tab w) (hv : SlR S w v g) :
    Calls Tryd.prog 19 #[.agg #[v]] w fun e w' => ∃ u, e = .returned (.tuple #[u, .bool (cliqO g).isSome]) ∧ Own w' w.heap.size 2 1 u (natsI ((cliqO g).getD [])).length ((natsI ((cliqO g).getD [])).map (.int .i64)) ∧ Below w.heap.size w w' := by
  have hq0 : Below w.heap.size w (w.alloc (.cells #[v] 29)) := (Below.refl _ _).alloc (Nat.le_refl _) _
  have hgo := implGraphOk_any _ _ _ (hv.below hq0 (Nat.le_refl _))
  have hnn := eqlIntsC
  obtain ⟨va, vc, rfl⟩ := hv.slice
  have c0 : (w.alloc (.cells #[.slice va g.length vc] 29)).cell? ⟨w.heap.size, 0, none⟩ = some (.slice va g.length vc) := by simp [go_sem]
  cases hgb : gokB g with
  | false =>
    rw [hgb] at hgo
    have HO := Lib.hid (cliqO_none1 hgb)
    clear hgb hv
    go_enter Tryd.func19, Tryd.ntmps19
    go_wp2_with fail
    refine hgo.mono ?_
    rintro e w1 ⟨rfl, hb1⟩
    have hq1 := hq0.trans (hb1.mono hq0.size)
    go_wp2
    go_ret2
    rw [HO.out]
    exact ⟨_, rfl, Own.nil _ _ _ _, hq1⟩
  | true =>
    have hg := gokB_iff.1 hgb
    rw [hgb] at hgo
    have HO := Lib.hid (cliqO_ok hgb)
    have HG := Lib.hid hg
    have h0 : 0 < g.length := hg.lo
    have hf := fun r (h : orderF g = some r) => cliqO_fit (HO.out.trans h)
    clear hgb hg
    go_enter Tryd.func19, Tryd.ntmps19
    go_wp2_with fail
    refine hgo.mono ?_
    rintro e w1 ⟨rfl, hb1⟩
    have hq1 := hq0.trans (hb1.mono hq0.size)
    have c1 := (hb1.cell (cell_lt c0)).trans c0
    clear hgo hq0 c0 hb1
    go_wp2_with fail
    refine (netsOf_any _ _ _ (hv.below hq1 (Nat.le_refl _)) HG.out).mono ?_
    rintro e w2 ⟨u2, rfl, hu2, hb2⟩
    have hq2 := hq1.trans (hb2.mono hq1.size)
    have hni := hu2.ints (xs := natsI (netsL g)) (by have := HG.out.hi; omega)
    have hco := cliqueOrder_any (ht.below hq2 (Nat.le_refl _)) HG.out hni
    clear hu2 hni hb2 hq1 c1
    go_wp2_with fail
    refine hco.mono ?_
    rintro e w3 ⟨v3, cv, rfl, hno, hso, hb3⟩
    have hq3 := hq2.trans (hb3.mono hq2.size)
    have hs2 := hq2.size
    clear hco hb3 hq2
    cases ho : orderF g with
    | none =>
      obtain rfl := hno ho
      have HO2 := Lib.hid (HO.out.trans ho)
      clear ho hno hso HO hf
      go_wp2
      go_ret2
      rw [HO2.out]
      exact ⟨_, rfl, Own.nil _ _ _ _, hq3⟩
    | some r =>
      obtain ⟨⟨rb, rc, rfl, hro⟩, -⟩ := hso r ho
      have hl := hf r ho
      have HO2 := Lib.hid (HO.out.trans ho)
      have hri := hro.ints (xs := natsI r) (by omega)
      have hwd := wide_any hri (by rw [natsI_len]; omega)
      clear ho hno hso HO hf hro hri
      go_wp2_with fail
      refine hwd.mono ?_
      rintro e w4 ⟨u4, rfl, ho4, hb4⟩
      have hs3 := hq3.size
      go_wp2
      go_ret2
      rw [HO2.out]
      exact ⟨_, rfl, ho4.weak hs3, hq3.trans (hb4.mono hs3)⟩
set_option maxHeartbeats 2000000 in
theorem implIntervalIn_any {S : Nat → Prop} {v : Value} {g : List (List Int)} {w : World} (ht : Tab w) (hv : SlR S w v g) :
    Calls Tryd.prog 17 #[.agg #[v]] w fun e w' => e = .returned (.bool (cliqO g).isSome) ∧ Below w.heap.size w w' := by
  have hq0 : Below w.heap.size w (w.alloc (.cells #[v] 29)) := (Below.refl _ _).alloc (Nat.le_refl _) _
  have hpo := implCliqueOrder_any (ht.below hq0 (Nat.le_refl _)) (hv.below hq0 (Nat.le_refl _))
  obtain ⟨va, vc, rfl⟩ := hv.slice
  generalize (cliqO g).isSome = b at *
  go_enter Tryd.func17, Tryd.ntmps17
  go_wp2_with fail
  refine hpo.mono ?_
  rintro e w1 ⟨u, rfl, -, hb1⟩
  go_wp2
  go_ret
  exact ⟨rfl, hq0.trans (hb1.mono hq0.size)⟩
set_option maxHeartbeats 8000000 in
theorem lawIntervalIn_any {S0 : Nat → Prop} (v0 : Value) (g0 : List (List Int)) (w : World) (ht : Tab w) (hv0 : SlR S0 w v0 g0) :
    Calls Tryd.prog 4 #[.agg #[v0]] w fun e w' => e = .returned (.bool true) ∧ Below w.heap.size w w' := by
  obtain ⟨a0, c0, rfl⟩ := hv0.slice
  have q0 : Below w.heap.size w (w.alloc (.cells #[.slice a0 g0.length c0] 24)) := (Below.refl _ _).alloc (Nat.le_refl _) _
  go_enter Tryd.func4, Tryd.ntmps4
  go_wp2_with fail
  refine (szGraph_any _ _ _ _ (hv0.below q0 (Nat.le_refl _)) (by omega) (by omega)).mono ?_
  rintro e w1 ⟨r1, rfl, hr1, hs1, hm1, hb1⟩
  have q1 := q0.trans (hb1.mono q0.size)
  have b0_1 : w1.cell? ⟨w.heap.size, 0, none⟩ = some (.slice a0 g0.length c0) := (hb1.cell (p := ⟨w.heap.size, 0, none⟩) (by simp <;> omega)).trans (by simp [go_sem])
  by_cases hneg1 : r1 < 0
  case pos =>
    go_wp2
    go_ret
    exact ⟨rfl, q1⟩
  have hsm0 : SmallR g0 1048576 := hm1 (by omega)
  go_wp2_with fail
  refine (toGraph_any _ _ _ (hv0.below q1 (Nat.le_refl _)) hsm0).mono ?_
  rintro e w2 ⟨x2, rfl, hy2, hb2⟩
  have q2 := q1.trans (hb2.mono q1.size)
  have b0_2 : w2.cell? ⟨w.heap.size, 0, none⟩ = some (.slice a0 g0.length c0) := (hb2.cell (p := ⟨w.heap.size, 0, none⟩) (cell_lt b0_1)).trans b0_1
  have y2_2 := hy2
  go_wp2_with fail
  refine (specIntervalIn_any y2_2).mono ?_
  rintro e w3 ⟨rfl, hb3⟩
  have q3 := q2.trans (hb3.mono q2.size)
  have b0_3 : w3.cell? ⟨w.heap.size, 0, none⟩ = some (.slice a0 g0.length c0) := (hb3.cell (p := ⟨w.heap.size, 0, none⟩) (cell_lt b0_2)).trans b0_2
  have y2_3 := y2_2.below hb3 (Nat.le_refl _)
  go_wp2_with fail
  refine (toGraph_any _ _ _ (hv0.below q3 (Nat.le_refl _)) hsm0).mono ?_
  rintro e w4 ⟨x4, rfl, hy4, hb4⟩
  have q4 := q3.trans (hb4.mono q3.size)
  have b0_4 : w4.cell? ⟨w.heap.size, 0, none⟩ = some (.slice a0 g0.length c0) := (hb4.cell (p := ⟨w.heap.size, 0, none⟩) (cell_lt b0_3)).trans b0_3
  have y2_4 := y2_3.below hb4 (Nat.le_refl _)
  have y4_4 := hy4
  obtain ⟨xa5, xc5, rfl⟩ := y4_4.slice
  have hb5 : Below w4.heap.size w4 (w4.alloc (.cells #[.slice xa5 g0.length xc5] 29)) := (Below.refl _ _).alloc (Nat.le_refl _) _
  have q5 := q4.trans (hb5.mono q4.size)
  have b0_5 := (hb5.cell (p := ⟨w.heap.size, 0, none⟩) (cell_lt b0_4)).trans b0_4
  have y2_5 := y2_4.below hb5 (Nat.le_refl _)
  have y4_5 := y4_4.below hb5 (Nat.le_refl _)
  go_wp2_with fail
  refine (implIntervalIn_any (ht.below q5 (Nat.le_refl _)) y4_5).mono ?_
  rintro e w6 ⟨rfl, hb6⟩
  have q6 := q5.trans (hb6.mono q5.size)
  have b0_6 : w6.cell? ⟨w.heap.size, 0, none⟩ = some (.slice a0 g0.length c0) := (hb6.cell (p := ⟨w.heap.size, 0, none⟩) (by have := cell_lt b0_5; simp at this ⊢; omega)).trans b0_5
  have l5_6 : w6.cell? ⟨w4.heap.size, 0, none⟩ = some (.slice xa5 g0.length xc5) := (hb6.cell (p := ⟨w4.heap.size, 0, none⟩) (by simp)).trans (by simp [go_sem])
  have y2_6 := y2_5.below hb6 (Nat.le_refl _)
  have y4_6 := y4_5.below hb6 (Nat.le_refl _)
  go_wp2
  have _tt : True := trivial
  refine wp_region_held_drew (S := (fun w' => w'.cell? ⟨w.heap.size, 0, none⟩ = some (.slice a0 g0.length c0) ∧ w'.cell? ⟨w4.heap.size, 0, none⟩ = some (.slice xa5 g0.length xc5))) (by kernel_rfl) ?_ (fun hHeld => ?_)
  · first | exact ⟨‹_›, ‹_›⟩ | assumption | (simp [*, go_sem])
  refine wpAnyH_take (i := 0) (v := ?v55) (by simp only [List.getElem?_toArray, List.getElem?_cons_zero]; exact rfl) (by kernel_rfl) (by kernel_rfl) (by kernel_rfl) (by intro _ _ _ h; exact h) (Or.inl ⟨by rfl, ?y55⟩) hHeld ?_
  case y55 => (intro w hSw; (try dsimp only at hSw); go_simp; try (with_reducible rfl))
  try simp only [Act.put, List.setIfInBounds_toArray, List.set_cons_zero, List.set_cons_succ]
  refine wpAnyH_take (i := 1) (v := ?v56) (by simp only [List.getElem?_toArray, List.getElem?_cons_succ, List.getElem?_cons_zero]; exact rfl) (by kernel_rfl) (by kernel_rfl) (by kernel_rfl) (by intro _ _ _ h; exact h) (Or.inl ⟨by rfl, ?y56⟩) hHeld ?_
  case y56 => (intro w hSw; (try dsimp only at hSw); go_simp; try (with_reducible rfl))
  try simp only [Act.put, List.setIfInBounds_toArray, List.set_cons_zero, List.set_cons_succ]
  refine wpAnyH_ready (rs := [2]) (by kernel_rfl) (by simp) ?_
  refine AllReadyH.cons (by simp only [List.getElem?_toArray, List.getElem?_cons_succ, List.getElem?_cons_zero]; exact rfl) (fun K hK => ?_) AllReadyH.nil
  go_simp
  have q6d := q6.drew
  refine (toGraph_any _ _ _ (hv0.below q6d (Nat.le_refl _)) hsm0).mono ?_
  rintro e w7 ⟨x7, rfl, hy7, hb7⟩
  have hb7e : Below w6.heap.size w6 w7 := ⟨hb7.os, hb7.tape, hb7.output, hb7.size, hb7.block⟩
  have q7 := q6.trans (hb7e.mono q6.size)
  have b0_7 : w7.cell? ⟨w.heap.size, 0, none⟩ = some (.slice a0 g0.length c0) := (hb7e.cell (p := ⟨w.heap.size, 0, none⟩) (cell_lt b0_6)).trans b0_6
  have l5_7 : w7.cell? ⟨w4.heap.size, 0, none⟩ = some (.slice xa5 g0.length xc5) := (hb7e.cell (p := ⟨w4.heap.size, 0, none⟩) (cell_lt l5_6)).trans l5_6
  have y2_7 := y2_6.below hb7e (Nat.le_refl _)
  have y4_7 := y4_6.below hb7e (Nat.le_refl _)
  have y7_7 := hy7
  try dsimp only
  refine hK.out _ _ ?h58 (fun hHeld => ?_)
  case h58 => first | exact ⟨‹_›, ‹_›⟩ | assumption | (simp [*, go_sem])
  clear hK K
  try simp only [Act.put, List.setIfInBounds_toArray, List.set_cons_zero, List.set_cons_succ]
  refine wpAnyH_ready (rs := [3]) (by kernel_rfl) (by simp) ?_
  refine AllReadyH.cons (by simp only [List.getElem?_toArray, List.getElem?_cons_succ, List.getElem?_cons_zero]; exact rfl) (fun K hK => ?_) AllReadyH.nil
  go_simp
  refine (eqGraph_any _ _ _ _ _ y4_7 y7_7).mono ?_
  rintro e w8 ⟨rfl, hb8⟩
  have q8 := q7.trans (hb8.mono q7.size)
  have b0_8 : w8.cell? ⟨w.heap.size, 0, none⟩ = some (.slice a0 g0.length c0) := (hb8.cell (p := ⟨w.heap.size, 0, none⟩) (cell_lt b0_7)).trans b0_7
  have l5_8 : w8.cell? ⟨w4.heap.size, 0, none⟩ = some (.slice xa5 g0.length xc5) := (hb8.cell (p := ⟨w4.heap.size, 0, none⟩) (cell_lt l5_7)).trans l5_7
  have y2_8 := y2_7.below hb8 (Nat.le_refl _)
  have y4_8 := y4_7.below hb8 (Nat.le_refl _)
  have y7_8 := y7_7.below hb8 (Nat.le_refl _)
  try dsimp only
  refine hK.out _ _ ?h60 (fun hHeld => ?_)
  case h60 => first | exact ⟨‹_›, ‹_›⟩ | assumption | (simp [*, go_sem])
  clear hK K
  try simp only [Act.put, List.setIfInBounds_toArray, List.set_cons_zero, List.set_cons_succ]
  refine wpAnyH_take (i := 4) (v := ?v61) (by simp only [List.getElem?_toArray, List.getElem?_cons_succ, List.getElem?_cons_zero]; exact rfl) (by kernel_rfl) (by kernel_rfl) (by kernel_rfl) (by intro _ _ _ h; exact h) (Or.inl ⟨by rfl, ?y61⟩) hHeld ?_
  case y61 => (intro w hSw; (try dsimp only at hSw); go_simp; try (with_reducible rfl))
  try simp only [Act.put, List.setIfInBounds_toArray, List.set_cons_zero, List.set_cons_succ]
  refine wpAnyH_done (by kernel_rfl) ?_ _
  go_wp2
  go_ret
  exact ⟨rfl, q8⟩
end Go.Proofs.YtpdlcnpmljfclaaDoor
