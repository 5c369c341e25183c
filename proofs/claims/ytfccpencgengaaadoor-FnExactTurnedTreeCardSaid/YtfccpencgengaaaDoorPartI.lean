/- The leaves of all nodes, by the program. -/
import Derived.Test.YtfccpencgengaaaDoorPartS
import Derived.Test.YtfccpencgengaaaDoorPop
import Derived.Test.YtfccpencgengaaaDoorGok
namespace Go.Proofs.YtfccpencgengaaaDoor
open Go.RowKit
/-- The kids are the last open nodes, by their least vertices. -/
def GKid (kids : List Int) (op : List Nat) (lv : List Nat) : Prop := 2 ≤ kids.length ∧ kids.length ≤ op.length ∧ kids = natsZ (op.drop (op.length - kids.length)) ∧ AdjLe (kids.map fun k => lv.getD k.toNat 0)
/-- What has been compared so far. -/
def GKTo (kids : List Int) (op : List Nat) (lv : List Nat) (i : Nat) : Prop := (∀ j (h : j < kids.length), j < i → kids[j] = ((op.drop (op.length - kids.length)).getD j 0 : Nat)) ∧ ∀ j (h : j + 1 < kids.length), j + 1 < i → lst (lv.getD (kids[j]'(by omega)).toNat 0) ≤ lst (lv.getD kids[j + 1].toNat 0)
theorem gkTo_all {kids : List Int} {op lv : List Nat} {i : Nat} (h2 : 2 ≤ kids.length) (hl : kids.length ≤ op.length) (hi : kids.length ≤ i) (h : GKTo kids op lv i) : GKid kids op lv := by
  refine ⟨h2, hl, ?_, fun j hj => ?_⟩
  · apply List.ext_getElem
    · simp [natsZ]; omega
    · intro j h1 h3
      rw [h.1 j h1 (by omega)]
      have : j < (op.drop (op.length - kids.length)).length := by simpa [natsZ] using h3
      simp only [natsZ, List.getElem_map]
      rw [List.getD_eq_getElem?_getD, List.getElem?_eq_getElem this]; rfl
  · simp only [List.length_map] at hj
    simp only [List.getElem_map]
    exact h.2 j hj (by omega)
theorem gk_drop {kids : List Int} {op : List Nat} (hl : kids.length ≤ op.length) : (op.drop (op.length - kids.length)).length = kids.length := by rw [List.length_drop]; omega
theorem gkTo_kid {kids : List Int} {op lv : List Nat} (h : GKid kids op lv) {j : Nat} (hj : j < kids.length) : kids[j] = ((op.drop (op.length - kids.length)).getD j 0 : Nat) := by
  have hl := gk_drop h.2.1
  have e : kids[j]? = (natsZ (op.drop (op.length - kids.length)))[j]? := by rw [← h.2.2.1]
  have hj2 : j < (op.drop (op.length - kids.length)).length := by omega
  rw [List.getElem?_eq_getElem hj, natsZ, List.getElem?_map, List.getElem?_eq_getElem hj2] at e
  rw [List.getD_eq_getElem?_getD, List.getElem?_eq_getElem hj2]
  simpa using e
theorem gkTo_succ {kids : List Int} {op lv : List Nat} {i : Nat} (h : GKTo kids op lv i) (hi : i < kids.length) (h1 : kids[i] = ((op.drop (op.length - kids.length)).getD i 0 : Nat))
    (h2 : ∀ (h0 : 0 < i), lst (lv.getD (kids[i - 1]'(by omega)).toNat 0) ≤ lst (lv.getD kids[i].toNat 0)) : GKTo kids op lv (i + 1) := by
  refine ⟨fun j hj hji => ?_, fun j hj hji => ?_⟩
  · by_cases e : j = i
    · subst e; exact h1
    · exact h.1 j hj (by omega)
  · by_cases e : j + 1 = i
    · subst e; have := h2 (by omega); simpa using this
    · exact h.2 j hj (by omega)
open Classical in
noncomputable def gkidB (kids : List Int) (op lv : List Nat) : Bool := decide (GKid kids op lv)
theorem gkidB_true {kids : List Int} {op lv : List Nat} (h : GKid kids op lv) : gkidB kids op lv = true := by simp [gkidB, h]
theorem gkidB_false {kids : List Int} {op lv : List Nat} (h : ¬ GKid kids op lv) : gkidB kids op lv = false := by simp [gkidB, h]
theorem natsZ_get {op : List Nat} {i : Nat} (h : i < (natsZ op).length) : (natsZ op)[i] = (op[i]'(by simpa [natsZ] using h) : Int) := by simp [natsZ]
set_option maxHeartbeats 4000000 in
theorem goodKids_any {S S' S2 : Nat → Prop} {v u x : Value} {kids : List Int} {op lv : List Nat} {w : World} (ht : Tab w) (hv : SlI S w .i64 v kids) (hu : SlI S' w .i64 u (natsZ op)) (hx : SlI S2 w .u32 x (natsI lv))
    (hop : ∀ a ∈ op, a < lv.length) (hlv : ∀ m ∈ lv, m < 65536 ∧ m ≠ 0) :
    Calls Tryd.prog 122 #[v, u, x] w fun e w' => e = .returned (.bool (gkidB kids op lv)) ∧ Drawn w w' := by
  obtain ⟨va, vc, rfl⟩ := hv.slice
  obtain ⟨ua, uc, rfl⟩ := hu.slice
  obtain ⟨xa, xc, rfl⟩ := hx.slice
  rw [natsZ_len] at *
  rw [natsI_len] at *
  have hkl := hv.len
  have hol := hu.len
  rw [natsZ_len] at hol
  by_cases h2 : 2 ≤ kids.length
  case neg =>
    have hb : decide ((kids.length : Int) < 2) = true := by simp; omega
    have HG := Lib.hid (gkidB_false (op := op) (lv := lv) (fun h : GKid kids op lv => h2 h.1))
    go_enter Tryd.func122, Tryd.ntmps122
    go_wp2
    go_ret
    exact ⟨ret_bool HG.out.symm, Drawn.refl _⟩
  have hb : decide ((kids.length : Int) < 2) = false := by simp; omega
  by_cases h3 : kids.length ≤ op.length
  case neg =>
    have hb3 : decide (op.length < kids.length) = true := by simp; omega
    have HG := Lib.hid (gkidB_false (op := op) (lv := lv) (fun h : GKid kids op lv => h3 h.2.1))
    go_enter Tryd.func122, Tryd.ntmps122
    go_wp2
    go_ret
    exact ⟨ret_bool HG.out.symm, Drawn.refl _⟩
  have hb3 : decide (op.length < kids.length) = false := by simp; omega
  have hs1 : IntKind.i64.wrap ((op.length : Int) - kids.length) = ((op.length - kids.length : Nat) : Int) := by rw [IntWalk.i64_in _ (by omega)]; omega
  have hcap := hu.capOf.2.1
  obtain ⟨ub, uo, ucap, hue, huc⟩ := hu.at_
  obtain ⟨kb, ko, kcap, hke, hkc⟩ := hv.at_
  obtain ⟨lb, lo, lcap, hle, hlc⟩ := hx.at_
  have hue := hue (by rw [natsZ_len]; omega)
  have hke := hke (by omega)
  have hle := hle (by
    rw [natsI_len]
    have := hop (op[0]'(by omega)) (List.getElem_mem _); omega)
  simp only [Value.slice.injEq] at hue hke hle
  obtain ⟨rfl, -, -⟩ := hue
  obtain ⟨rfl, -, -⟩ := hke
  obtain ⟨rfl, -, -⟩ := hle
  have hopd : ∀ i, i < kids.length → ∃ a, op.length - kids.length + i < op.length ∧ (op.drop (op.length - kids.length)).getD i 0 = a ∧ a < lv.length ∧ w.cell? ⟨ub, uo + (op.length - kids.length) + i, none⟩ = some (.int .i64 (a : Int)) := by
    intro i hi
    have h1 : op.length - kids.length + i < op.length := by omega
    refine ⟨op[op.length - kids.length + i], h1, ?_, hop _ (List.getElem_mem _), ?_⟩
    · rw [List.getD_eq_getElem?_getD, List.getElem?_drop, List.getElem?_eq_getElem h1]; rfl
    · have := huc (op.length - kids.length + i) (by rw [natsZ_len]; exact h1)
      rw [natsZ_get, ← Nat.add_assoc] at this
      exact this
  have hlvc : ∀ a, a < lv.length → ∃ m, lv.getD a 0 = m ∧ m < 4294967296 ∧ m ≠ 0 ∧ w.cell? ⟨lb, lo + a, none⟩ = some (.int .u32 (m : Int)) := by
    intro a ha
    have hm := hlv lv[a] (List.getElem_mem _)
    refine ⟨lv[a], by simp [ha], by omega, hm.2, ?_⟩
    have := hlc a (by rw [natsI_len]; exact ha)
    simpa [natsI] using this
  clear huc hlc
  have HOP := Lib.hid hopd; clear hopd
  have HLV := Lib.hid hlvc; clear hlvc
  have HKC := Lib.hid hkc; clear hkc
  have hd0 := gk_drop h3
  have HD0 := Lib.hid hd0; clear hd0
  have hdd : op.length - (op.length - kids.length) = kids.length := by omega
  have hne : ¬ uc = op.length - kids.length := by omega
  have hdle : op.length - kids.length ≤ op.length := by omega
  have hdl2 : op.length - kids.length ≤ uc := by omega
  go_enter Tryd.func122, Tryd.ntmps122
  go_wp2
  go_loopw [27] (fun i wr => ∃ k : Nat, k ≤ kids.length ∧ i = .int .i64 k ∧ GKTo kids op lv k ∧ Drawn w wr) (fun i _ => kids.length - (intOf i).toNat)
  case atStart => exact ⟨0, Nat.zero_le _, rfl, ⟨fun j _ h => by omega, fun j _ h => by omega⟩, Drawn.refl _⟩
  case round =>
    obtain ⟨k, hk, rfl, hg, hq⟩ := hrel
    have HG := Lib.hid hg; clear hg
    by_cases hlt : k < kids.length
    case neg =>
      have HB := Lib.hid (gkidB_true (gkTo_all h2 h3 (by omega) HG.out))
      go_wp2
      go_ret
      exact ⟨ret_bool HB.out.symm, hq⟩
    obtain ⟨a, ha1, ha2, ha3, ha4⟩ := HOP.out k hlt
    have ha4 := (hq.cell _).trans ha4
    have HA2 := Lib.hid ha2; clear ha2
    have hkk := (hq.cell _).trans (HKC.out k hlt)
    by_cases hka : kids[k] = (a : Int)
    case neg =>
      have hkb : (kids[k] != (a : Int)) = true := by simpa using hka
      have HB := Lib.hid (gkidB_false (fun h : GKid kids op lv => hka (by rw [gkTo_kid h hlt, HA2.out])))
      have hg6 : decide ((0 : Int) < (k : Int)) = decide ((0 : Int) < (k : Int)) := rfl
      go_wp2
      go_quiet (fail)
      go_wp2
      go_ret
      exact ⟨ret_bool HB.out.symm, hq.drewN _⟩
    have hkb : (kids[k] != (a : Int)) = false := by simpa using hka
    have HKA := Lib.hid hka
    by_cases h0 : k = 0
    · have hb0 : decide ((0 : Int) < (k : Int)) = false := by simp; omega
      have hb0n : decide (0 < k) = false := decide_eq_false (by omega)
      have HN := Lib.hid (gkTo_succ HG.out hlt (by rw [hka, HA2.out]) (fun h => by omega))
      clear hka h0
      go_wp2
      go_quiet (fail)
      go_wp2
      go_roundw
      case rel => exact ⟨k + 1, by omega, by go_num, HN.out, hq.drewN _⟩
      case measure => simp [intOf] <;> omega
    have hb0 : decide ((0 : Int) < (k : Int)) = true := by simp; omega
    have hb0n : decide (0 < k) = true := decide_eq_true (by omega)
    obtain ⟨a1, hb1, hb2, hb3, hb4⟩ := HOP.out (k - 1) (by omega)
    have hk1 := HG.out.1 (k - 1) (by omega) (by omega)
    rw [hb2] at hk1
    have hkk1 := (hq.cell _).trans (HKC.out (k - 1) (by omega))
    rw [hk1] at hkk1
    obtain ⟨m1, hm1, hm2, hm3, hm4⟩ := HLV.out a1 hb3
    obtain ⟨m, hn1, hn2, hn3, hn4⟩ := HLV.out a ha3
    have hm4 := (hq.cell _).trans hm4
    have hn4 := (hq.cell _).trans hn4
    have HL1 := Lib.hid hm1; have HL2 := Lib.hid hn1; have HK1 := Lib.hid hk1
    clear hm1 hn1 hk1 hb2 hb4 hka
    have hw2 : IntKind.i64.wrap ((k : Int) - 1) = (k : Int) - 1 := IntWalk.i64_in _ (by omega)
    have hw3 : ((k : Int) - 1).toNat = k - 1 := by omega
    have hw4 : (0 : Int) ≤ (k : Int) - 1 := by omega
    have hw5 : (k : Int) - 1 < kids.length := by omega
    by_cases hcmp : lst m < lst m1
    · have hcb : decide (Lib.ctz 32 m < Lib.ctz 32 m1) = true := decide_eq_true hcmp
      have HB := Lib.hid (gkidB_false (fun h : GKid kids op lv => by
        have h1 := h.2.2.2 (k - 1) (by simp; omega)
        simp only [List.getElem_map] at h1
        have e : k - 1 + 1 = k := by omega
        simp only [e] at h1
        rw [HK1.out, HKA.out, Int.toNat_natCast, Int.toNat_natCast, HL1.out, HL2.out] at h1
        omega))
      clear hcmp
      go_wp2
      go_quiet ((go_at_call 102; exact quiet_same (least_any _ _ (ht.drawn (hq.drewN _)) (by assumption) (by assumption))))
      go_wp2
      go_ret
      exact ⟨ret_bool HB.out.symm, hq.drewN _⟩
    · have hcb : decide (Lib.ctz 32 m < Lib.ctz 32 m1) = false := decide_eq_false hcmp
      have HN := Lib.hid (gkTo_succ HG.out hlt (by rw [HKA.out, HA2.out]) (fun h => by
        rw [HK1.out, HKA.out, Int.toNat_natCast, Int.toNat_natCast, HL1.out, HL2.out]; omega))
      clear hcmp
      go_wp2
      go_quiet ((go_at_call 102; exact quiet_same (least_any _ _ (ht.drawn (hq.drewN _)) (by assumption) (by assumption))))
      go_wp2
      go_roundw
      case rel => exact ⟨k + 1, by omega, by go_num, HN.out, hq.drewN _⟩
      case measure => simp [intOf]; omega
end Go.Proofs.YtfccpencgengaaaDoor
