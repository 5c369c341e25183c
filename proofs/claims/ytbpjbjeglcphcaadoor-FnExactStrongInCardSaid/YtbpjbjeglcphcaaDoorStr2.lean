/- StrongIn of the reference. -/
import Derived.Test.YtbpjbjeglcphcaaDoorStr1
import Derived.Test.YtbpjbjeglcphcaaDoorSets
namespace Go.Proofs.YtbpjbjeglcphcaaDoor
open Go.RowKit
def lapsB (a b : List Int) : Bool := decide (0 < cntIn a b) && (decide (cntIn a b < a.length) && decide (cntIn a b < b.length))
open Classical in
noncomputable def strongB (g : List (List Int)) (s : List Int) : Bool := (gokB g && decide (g.length ≤ 8)) && modB g s && decide (∀ m, 0 < m → m < 2 ^ g.length → modM g m = true → lapsB (bitsI m) s = false)
set_option maxHeartbeats 2000000 in
theorem l17Laps_any {S S' : Nat → Prop} {u v : Value} {a b : List Int} {w : World} (hu : SlI S w .i64 u a) (hv : SlI S' w .i64 v b) :
    Calls Tryd.prog 14 #[u, v] w fun e w' => e = .returned (.bool (lapsB a b)) ∧ Below w.heap.size w w' := by
  obtain ⟨va, vc, rfl⟩ := hv.slice
  obtain ⟨a', b', off', cap', rfl, hl', ha', hc0'⟩ := hu
  have hvl := hv.len
  go_enter Tryd.func14, Tryd.ntmps14
  go_wp2
  go_loopw [5, 6] (fun c i wr => ∃ k : Nat, k ≤ a.length ∧ i = .int .i64 k ∧ c = .int .i64 (cntIn (a.take k) b : Int) ∧ Below w.heap.size w wr) (fun _ i _ => a.length - (intOf i).toNat)
  case atStart => exact ⟨0, Nat.zero_le _, rfl, by simp [cntIn], Below.refl _ _⟩
  case round =>
    obtain ⟨k, hk, rfl, rfl, hq⟩ := hrel
    have hc' := hc0'.below hq (Nat.le_refl _)
    have hrow := hv.below hq (Nat.le_refl _)
    have hcl := cntIn_le (a.take k) b
    have htl : (a.take k).length ≤ k := List.length_take_le _ _
    by_cases hlt : k < a.length
    · have hcell' := hc' k hlt
      obtain ⟨rfl, _⟩ := ha' (by omega)
      have hct := Lib.hid (cntIn_take (row := b) hlt)
      by_cases hin : a[k] ∈ b
      · have hbin : decide (a[k] ∈ b) = true := by simpa using hin
        go_wp2_with (go_at_call 32; refine (l1Has_any _ _ _ _ hrow).mono ?_; rintro e w' ⟨rfl, rfl⟩)
        go_roundw
        case rel => exact ⟨k + 1, by omega, by go_num, by rw [hct.out, if_pos hin]; go_num, hq⟩
        case measure => simp [intOf]; omega
      · have hbin : decide (a[k] ∈ b) = false := by simpa using hin
        go_wp2_with (go_at_call 32; refine (l1Has_any _ _ _ _ hrow).mono ?_; rintro e w' ⟨rfl, rfl⟩)
        go_roundw
        case rel => exact ⟨k + 1, by omega, by go_num, by rw [hct.out, if_neg hin]; go_num, hq⟩
        case measure => simp [intOf]; omega
    · have ht : a.take k = a := List.take_of_length_le (by omega)
      rw [ht] at hcl ⊢
      have HB := Lib.hid (show lapsB a b = (decide (0 < cntIn a b) && (decide (cntIn a b < a.length) && decide (cntIn a b < b.length))) from rfl)
      clear ht
      generalize cntIn a b = c at *
      by_cases hp : 0 < c
      · by_cases hp2 : c < a.length
        · by_cases hp3 : c < b.length
          · go_wp2
            go_ret
            exact ⟨ret_bool (by rw [HB.out]; simp [hp, hp2, hp3]), hq⟩
          · go_wp2
            go_ret
            exact ⟨ret_bool (by rw [HB.out]; simp [hp, hp2, hp3]; try omega), hq⟩
        · go_wp2
          go_ret
          exact ⟨ret_bool (by rw [HB.out]; simp [hp, hp2]; try omega), hq⟩
      · go_wp2
        go_ret
        exact ⟨ret_bool (by rw [HB.out]; simp [hp]; try omega), hq⟩
theorem modM_mask {g : List (List Int)} {s : List Int} (hg : GOk g) (hr : Rise s g.length) (hl : 0 < s.length) (hm : splitterI g (rangeI g.length) s < 0) : 0 < maskL s ∧ maskL s < 2 ^ g.length ∧ modM g (maskL s) = true ∧ bitsI (maskL s) = s := by
  have hhi := hg.hi
  have hs2 : ∀ x ∈ s, 0 ≤ x ∧ x < 32 := fun x hx => by have := rise_ge hr x hx; omega
  have hb := bitsI_maskL (rise_sorted hr) hs2
  refine ⟨?_, ?_, ?_, hb⟩
  · apply Nat.pos_of_ne_zero
    intro h
    rw [h] at hb
    have : bitsI 0 = [] := (bitsI_nil (by omega)).2 rfl
    rw [this] at hb
    rw [← hb] at hl; simp at hl
  · refine Nat.lt_pow_two_of_testBit _ fun i hi => ?_
    cases ht : (maskL s).testBit i with
    | false => rfl
    | true =>
      have hi32 : (maskL s) < 4294967296 := maskL_lt32 hs2
      have : (i : Int) ∈ bitsI (maskL s) := (mem_bitsI hi32).2 ⟨by omega, by simpa using ht⟩
      rw [hb] at this
      have := rise_ge hr _ this
      omega
  · unfold modM; rw [hb]; exact decide_eq_true hm
open Classical in
theorem strong_of {g : List (List Int)} {s : List Int} {ms : List Nat} (hsm : (gokB g && decide (g.length ≤ 8)) = true) (h : ModL g (2 ^ g.length) ms) (hm : modB g s = true) : strongB g s = !(ms.any fun m => lapsB (bitsI m) s) := by
  unfold strongB
  rw [hsm, hm]
  simp only [Bool.true_and]
  rw [Bool.eq_iff_iff, decide_eq_true_iff, Bool.not_eq_true', List.any_eq_false]
  constructor
  · intro hh m hmm
    obtain ⟨h1, h2, h3⟩ := (h.2 m).1 hmm
    rw [hh m h1 h2 h3]; simp
  · intro hh m h1 h2 h3
    have := hh m ((h.2 m).2 ⟨h1, h2, h3⟩)
    simpa using this
theorem strong_none {g : List (List Int)} {s : List Int} (hm : modB g s = false) : strongB g s = false := by
  unfold strongB; rw [hm]; simp
theorem strong_big {g : List (List Int)} {s : List Int} (hsm : (gokB g && decide (g.length ≤ 8)) = false) : strongB g s = false := by
  unfold strongB; rw [hsm]; simp
/-- No modules at all: no set is one. -/
theorem strong_empty {g : List (List Int)} {s : List Int} (hsm : (gokB g && decide (g.length ≤ 8)) = true) (h : ModL g (2 ^ g.length) []) : modB g s = false := by
  cases hm : modB g s with
  | false => rfl
  | true =>
    exfalso
    unfold modB at hm
    simp only [Bool.and_eq_true, decide_eq_true_eq] at hm
    obtain ⟨⟨h1, h2⟩, h3⟩ := hm
    have hgr : gokB g = true ∧ riseB s g.length = true := by simpa [setOkB] using h1
    obtain ⟨k1, k2, k3, _⟩ := modM_mask (gokB_iff.1 hgr.1) (riseB_iff.1 hgr.2) h2 h3
    have := (h.2 _).2 ⟨k1, k2, k3⟩
    simp at this
theorem any_take {α : Type} {l : List α} {f : α → Bool} {k : Nat} (hk : k < l.length) (h : (l.take k).any f = false) (hf : f l[k] = false) : (l.take (k + 1)).any f = false := by
  rw [List.take_succ_eq_append_getElem hk, List.any_append, h]; simp [hf]
set_option maxRecDepth 100000 in
set_option maxHeartbeats 4000000 in
theorem specStrongIn_any {S S' : Nat → Prop} {v u : Value} {g : List (List Int)} {s : List Int} {w : World} (hv : SlR S w v g) (hu : SlI S' w .i64 u s) :
    Calls Tryd.prog 5 #[.agg #[v], u] w fun e w' => e = .returned (.bool (strongB g s)) ∧ Below w.heap.size w w' := by
  obtain ⟨va, vc, rfl⟩ := hv.slice
  obtain ⟨ua, uc, rfl⟩ := hu.slice
  have hb : Below w.heap.size w (w.alloc (.cells #[.slice va g.length vc] 28)) := (Below.refl _ _).alloc (Nat.le_refl _) _
  have c0 : (w.alloc (.cells #[.slice va g.length vc] 28)).cell? ⟨w.heap.size, 0, none⟩ = some (.slice va g.length vc) := by simp [go_sem]
  have hmo := specModulesOf_any (hv.below hb (Nat.le_refl _))
  have hmi := fun (W : World) (h : Below w.heap.size w W) => specModuleIn_any _ _ _ _ W (hv.below h (Nat.le_refl _)) (hu.below h (Nat.le_refl _))
  have hul := hu.len
  go_enter Tryd.func5, Tryd.ntmps5
  go_wp2_with fail
  refine hmo.mono ?_
  rintro e w1 ⟨lv, ms, rfl, hms, hT, hF, hb1⟩
  have hq1 := hb.trans (hb1.mono hb.size)
  have c1 := (hb1.cell (cell_lt c0)).trans c0
  have HT := Lib.hid hT
  have HF := Lib.hid hF
  clear hT hF hmo hb1 c0 hb
  obtain ⟨rows, hrows⟩ : ∃ rows, rows = ms.map bitsI := ⟨_, rfl⟩
  rw [← hrows] at hms
  have HRW := Lib.hid hrows
  clear hrows
  obtain ⟨la, lc, rfl⟩ := hms.slice
  have hrl := hms.len
  by_cases hr0 : rows.length = 0
  case pos =>
    have hrz : ((rows.length : Int) == 0) = true := by simp [hr0]
    have HS := Lib.hid (show strongB g s = false by
      have hm0 : ms = [] := by have := hr0; rw [HRW.out, List.length_map] at this; exact List.eq_nil_of_length_eq_zero this
      cases hsm : (gokB g && decide (g.length ≤ 8)) with
      | false => exact strong_big hsm
      | true => exact strong_none (strong_empty hsm (by have := HT.out hsm; rw [hm0] at this; exact this)))
    clear hmi
    go_wp2
    go_ret
    exact ⟨ret_bool HS.out.symm, hq1⟩
  have hrz : ((rows.length : Int) == 0) = false := by rw [beq_eq_false_iff_ne]; omega
  have hsm : (gokB g && decide (g.length ≤ 8)) = true := by
    cases h : (gokB g && decide (g.length ≤ 8)) with
    | true => rfl
    | false => exact absurd (by rw [HRW.out, HF.out h]; rfl) hr0
  have HSM := Lib.hid hsm
  clear hsm
  cases hmb : modB g s with
  | false =>
    have HS := Lib.hid (strong_none hmb)
    have hmi1 := hmi _ hq1
    rw [hmb] at hmi1
    clear hmi hmb
    go_wp2_with fail
    refine hmi1.mono ?_
    rintro e w2 ⟨rfl, hb2⟩
    go_wp2
    go_ret
    exact ⟨ret_bool HS.out.symm, hq1.trans (hb2.mono hq1.size)⟩
  | true =>
    have HS := Lib.hid (strong_of HSM.out (HT.out HSM.out) hmb)
    have hmi1 := hmi _ hq1
    rw [hmb] at hmi1
    clear hmi hmb
    go_wp2_with fail
    refine hmi1.mono ?_
    rintro e w2 ⟨rfl, hb2⟩
    have hqs := (Below.refl w1.heap.size w1).trans hb2
    clear hmi1
    go_wp2
    go_loopw [6] (fun i wr => ∃ k : Nat, k ≤ rows.length ∧ i = .int .i64 (k : Int) ∧ RowKit.Hid ((rows.take k).any (fun a => lapsB a s) = false) ∧ Below w1.heap.size w1 wr) (fun i _ => rows.length - (RowKit.intOf i).toNat)
    case atStart => exact ⟨0, Nat.zero_le _, rfl, Lib.hid (by simp), hqs⟩
    case round =>
      clear hqs hb2
      obtain ⟨k, hk, rfl, HA, hq⟩ := hrel
      have hqw := hq1.trans (hq.mono hq1.size)
      by_cases hlt : k < rows.length
      case neg =>
        have HE := Lib.hid (show strongB g s = true by
          have h := HA.out
          rw [List.take_of_length_le (by omega), HRW.out, List.any_map] at h
          rw [HS.out, Bool.not_eq_true']
          exact h)
        go_wp2
        go_ret
        exact ⟨ret_bool HE.out.symm, hqw⟩
      obtain ⟨ra, rb, roff, rcap, rf, re, rl, rha, rrow⟩ := hms.below hq (Nat.le_refl _)
      simp only [Value.slice.injEq, true_and] at re
      obtain ⟨rfl, rfl⟩ := re
      obtain ⟨rfl, _⟩ := rha (by omega)
      obtain ⟨hcell, hrow⟩ := rrow k hlt
      have hla := l17Laps_any hrow (hu.below hqw (Nat.le_refl _))
      cases hl : lapsB rows[k] s with
      | true =>
        have HE := Lib.hid (show strongB g s = false by
          rw [HS.out]
          have : (ms.any fun m => lapsB (bitsI m) s) = true := by
            have h2 : rows.any (fun a => lapsB a s) = true := List.any_eq_true.2 ⟨_, List.getElem_mem hlt, hl⟩
            rw [HRW.out, List.any_map] at h2
            exact h2
          rw [this]; rfl)
        rw [hl] at hla
        clear hl
        go_wp2_with fail
        refine hla.mono ?_
        rintro e w3 ⟨rfl, hb3⟩
        go_wp2
        go_ret
        exact ⟨ret_bool HE.out.symm, hqw.trans (hb3.mono hqw.size)⟩
      | false =>
        have HA2 := Lib.hid (any_take hlt HA.out hl)
        rw [hl] at hla
        clear hl
        go_wp2_with fail
        refine hla.mono ?_
        rintro e w3 ⟨rfl, hb3⟩
        go_wp2
        go_roundw
        case rel => exact ⟨k + 1, by omega, by go_num, HA2, hq.trans (hb3.mono hq.size)⟩
        case measure => simp [RowKit.intOf]; omega
end Go.Proofs.YtbpjbjeglcphcaaDoor
