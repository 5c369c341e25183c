/- PartsOk of the reference. -/
import Derived.Test.YtfccpencgengaaaDoorPartH
namespace Go.Proofs.YtfccpencgengaaaDoor
open Go.RowKit
theorem bitsI_head {m : Nat} (h0 : m ≠ 0) (hm : m < 65536) (h : 0 < (bitsI m).length) : (bitsI m)[0] = (lst m : Int) := by
  have e := bitsI_step h0 (by omega : m < 4294967296)
  simp only [e, List.getElem_cons_zero, lst]
theorem cntK_le (t : List PNode) (a b : Nat) : cntK t a b ≤ b - a := by
  unfold cntK
  have := List.length_filter_le (fun i => decide ((nd t i).kind = 1)) (List.range' a (b - a))
  simpa using this
/-- What has been compared of a node's kids. -/
def UpTo (l : List Nat) (r : Nat) (last : Int) : Prop := (∀ j (h : j + 1 < l.length), j + 1 < r → lst (l[j]'(by omega)) < lst l[j + 1]) ∧ (r = 0 → last = -1) ∧ (∀ (h0 : 0 < r) (h : r - 1 < l.length), last = lst l[r - 1])
theorem upTo_zero (l : List Nat) : UpTo l 0 (-1) := ⟨fun j _ h => by omega, fun _ => rfl, fun h => by omega⟩
theorem upTo_succ {l : List Nat} {r : Nat} {last : Int} (h : UpTo l r last) (hr : r < l.length) (hl : ¬ (lst l[r] : Int) ≤ last) : UpTo l (r + 1) (lst l[r]) := by
  refine ⟨fun j hj hjr => ?_, fun h => by omega, fun _ h2 => by simp⟩
  by_cases e : j + 1 = r
  · subst e
    have := h.2.2 (by omega) (by omega)
    simp only [Nat.add_sub_cancel] at this
    omega
  · exact h.1 j hj (by omega)
theorem upTo_bad {l : List Nat} {r : Nat} {last : Int} (h : UpTo l r last) (hr : r < l.length) (hl : (lst l[r] : Int) ≤ last) : ¬ AdjLt l := by
  intro ha
  by_cases h0 : r = 0
  · have := h.2.1 h0; omega
  · have h1 := h.2.2 (by omega) (by omega)
    have h2 := ha (r - 1) (by omega)
    have e : r - 1 + 1 = r := by omega
    simp only [e] at h2
    omega
theorem upTo_all {l : List Nat} {r : Nat} {last : Int} (h : UpTo l r last) (hr : l.length ≤ r) : AdjLt l := fun j hj => h.1 j hj (by omega)
set_option maxHeartbeats 4000000 in
theorem specPartsOk_any {S : Nat → Prop} {v : Value} {t : List PNode} {w : World} (hv : SlP S w v t) (hn : t.length ≤ 1048576) :
    Calls Tryd.prog 108 #[v] w fun e w' => e = .returned (.bool (partsB t)) ∧ Below w.heap.size w w' := by
  obtain ⟨va, vc, rfl⟩ := hv.slice
  by_cases hin : (1 : Int) ≤ t.length ∧ (t.length : Int) ≤ 31
  case neg =>
    have hbb := inB_false hin
    have hG := Lib.hid (partsS_false (t := t) fun h => by have := h.lo; have := h.hi; omega)
    go_enter Tryd.func108, Tryd.ntmps108
    go_wp2_with (go_at_call 93; refine (l1In_any _ _ _ _).mono ?_; rintro e w' ⟨rfl, rfl⟩)
    go_ret
    exact ⟨ret_bool hG.out.symm, Below.refl _ _⟩
  have hbb := inB_true hin
  have hw0 : ((t.length : Int) - 1) = ((t.length - 1 : Nat) : Int) := by omega
  have HW0 := Lib.hid hw0
  have hcw := l16Walk_any (v := .slice va t.length vc) hn t.length (t.length - 1) w hv (by omega) (by omega)
  rw [← hw0] at hcw
  clear hw0
  by_cases hwk : walkF t.length t (t.length - 1) = t.length
  case neg =>
    have hwb : (walkF t.length t (t.length - 1) != (t.length : Int)) = true := by simpa using hwk
    have hG := Lib.hid (partsS_false (t := t) fun h => hwk h.walk)
    clear hwk
    go_enter Tryd.func108, Tryd.ntmps108
    go_wp2_with (first | (go_at_call 93; refine (l1In_any _ _ _ _).mono ?_; rintro e w' ⟨rfl, rfl⟩) | (go_at_call 117; refine hcw.mono ?_; rintro e w1 ⟨rfl, hb1⟩))
    go_ret
    exact ⟨ret_bool hG.out.symm, hb1⟩
  have hwb : (walkF t.length t (t.length - 1) != (t.length : Int)) = false := by simpa using hwk
  have hsok := (walk_all t t.length (Nat.le_refl _) (by omega)).1 hwk
  have HSG := Lib.hid (fun (h1 : ∀ i, i < t.length → AdjLt (kmsk t i)) (h2 : pop (msk t (t.length - 1)) = cntK t 0 t.length) (h3 : (bitsI (msk t (t.length - 1)))[cntK t 0 t.length - 1]? = some ((cntK t 0 t.length : Int) - 1)) =>
    partsS_true (t := t) ⟨by omega, by omega, hwk, h1, h2, h3⟩)
  clear hwk
  have HOK := Lib.hid hsok; clear hsok
  have hcells : ∀ (w' : World) i (hi : i < t.length), Below w.heap.size w w' → ∃ b off ka kc, Value.slice va t.length vc = .slice (some ⟨b, off, none⟩) t.length vc ∧ w'.cell? ⟨b, off + i * 3, none⟩ = some (.int .i64 t[i].kind) ∧ w'.cell? ⟨b, off + i * 3 + 2, none⟩ = some (.slice ka t[i].kids.length kc) ∧ SlI S w' .i64 (.slice ka t[i].kids.length kc) t[i].kids := by
    intro w' i hi hb
    obtain ⟨b, off, cap, g, hve, hc⟩ := (hv.below hb (Nat.le_refl _)).at_
    obtain ⟨h1, h2, h3, h4⟩ := hc i hi
    obtain ⟨ka, kc, hge⟩ := h4.slice
    rw [hge] at h3 h4
    have hve := hve (by omega)
    simp only [Value.slice.injEq] at hve
    exact ⟨b, off, ka, kc, by rw [hve.1], h1, h3, h4⟩
  have HC := Lib.hid hcells; clear hcells
  go_enter Tryd.func108, Tryd.ntmps108
  go_wp2_with (first | (go_at_call 93; refine (l1In_any _ _ _ _).mono ?_; rintro e w' ⟨rfl, rfl⟩) | (go_at_call 117; refine hcw.mono ?_; rintro e w1 ⟨rfl, hb1⟩))
  clear hcw
  go_loopw [4, 5] (fun l i wr => ∃ (k : Nat), k ≤ t.length ∧ i = .int .i64 k ∧ l = .int .i64 (cntK t 0 k : Int) ∧ (∀ j, j < k → AdjLt (kmsk t j)) ∧ Below w.heap.size w wr) (fun _ i _ => t.length - (intOf i).toNat)
  case atStart => exact ⟨0, Nat.zero_le _, rfl, by simp [cntK], fun j h => by omega, hb1⟩
  case round =>
    clear hb1
    obtain ⟨k, hk, rfl, rfl, hup, hq⟩ := hrel
    have hB := hq.size
    have HU := Lib.hid hup; clear hup
    have hcle := cntK_le t 0 k
    by_cases hlt : k < t.length
    · obtain ⟨b, off, ka, kc, hve, c1, c2, hkr⟩ := HC.out _ k hlt hq
      simp only [Value.slice.injEq, and_true] at hve
      subst hve
      have hnd := nd_get hlt
      have hdn := sok_down (HOK.out.1 k hlt)
      unfold Down at hdn
      have hcs := cntK_add t (a := 0) (b := k) (c := k + 1) (by omega) (by omega)
      rw [cntK_one] at hcs
      have hkl : (kmsk t k).length = t[k].kids.length := by rw [kmsk, List.length_map, hnd]
      have hkg : ∀ j (h : j < (kmsk t k).length) (h2 : j < t[k].kids.length), (kmsk t k)[j] = msk t t[k].kids[j].toNat := by
        intro j h h2; simp [kmsk, hnd]
      have hkids : ∀ x ∈ t[k].kids, 0 ≤ x ∧ x < k := by
        intro x hx
        rw [hnd] at hdn
        by_cases h1 : t[k].kind = 1
        · rcases HOK.out.1 k hlt with ⟨_, h2, _⟩ | ⟨h2, _⟩
          · rw [hnd] at h2; rw [h2] at hx; simp at hx
          · rw [hnd] at h2; exact absurd h1 h2
        · exact (hdn.2 h1).2 x hx
      rw [hnd] at hcs
      clear hdn hnd
      have HKL := Lib.hid hkl; have HKG := Lib.hid hkg; have HKI := Lib.hid hkids
      clear hkl hkg hkids
      have hcv : ∃ c : Nat, c ≤ 1048576 ∧ cntK t 0 (k + 1) = c ∧ (t[k].kind = 1 → c = cntK t 0 k + 1) ∧ (t[k].kind ≠ 1 → c = cntK t 0 k) := by
        refine ⟨_, ?_, rfl, fun h => by rw [hcs, if_pos h], fun h => by rw [hcs, if_neg h]; rfl⟩
        have := cntK_le t 0 (k + 1); omega
      clear hcs
      obtain ⟨c, hc1, hc2, hc3, hc4⟩ := hcv
      have HC2 := Lib.hid hc2; clear hc2
      generalize hkd : t[k].kids = kids at *
      have HKD := Lib.hid hkd; clear hkd
      have hkrl := hkr.len
      by_cases hkind : t[k].kind = 1
      all_goals
        first
        | (have hkb : (t[k].kind == 1) = true := by simpa using hkind
           have hce := hc3 hkind
           clear hkind)
        | (have hkb : (t[k].kind == 1) = false := by simpa using hkind
           have hce := hc4 hkind
           clear hkind)
        clear hc3 hc4
        have HCE := Lib.hid hce; clear hce
        go_wp2
        clear c1 c2 hkb
        go_loopw [6, 7] (fun l j ws => ∃ (r : Nat) (last : Int), r ≤ kids.length ∧ j = .int .i64 r ∧ l = .int .i64 last ∧ UpTo (kmsk t k) r last ∧ Below w.heap.size w ws) (fun _ j _ => kids.length - (intOf j).toNat)
        case atStart => exact ⟨0, -1, Nat.zero_le _, rfl, rfl, upTo_zero _, hq⟩
        case round =>
          obtain ⟨r, last, hr, rfl, rfl, hu, hqs⟩ := hrel
          have hBs := hqs.size
          obtain ⟨b2, off2, ka2, kc2, hve, c1, c2, hkr2⟩ := HC.out _ k hlt hqs
          rw [HKD.out] at c2 hkr2
          simp only [Value.slice.injEq, and_true, Option.some.injEq, Addr.mk.injEq] at hve
          obtain ⟨rfl, rfl⟩ := hve
          have HU2 := Lib.hid hu; clear hu
          by_cases hlt2 : r < kids.length
          · obtain ⟨kb, ko, kcap, hke, hkc⟩ := hkr2.at_
            have hke := hke (by omega)
            simp only [Value.slice.injEq, true_and] at hke
            obtain ⟨rfl, rfl⟩ := hke
            have hcell := hkc r hlt2
            clear hkc
            have hlm : r < (kmsk t k).length := by rw [HKL.out]; omega
            have hkx := HKI.out kids[r] (List.getElem_mem _)
            have hm := HKG.out r hlm hlt2
            obtain ⟨nx, hnx⟩ := Int.eq_ofNat_of_zero_le hkx.1
            rw [hnx] at hcell hkx hm
            rw [Int.toNat_natCast] at hm
            have hdj : ∀ j, j ≤ nx → Down t j := fun j hj => sok_down (HOK.out.1 j (by omega))
            have hmf := msk_facts (t := t) nx (by omega) hdj
            have hcall := l16Has_any (t := t) hn t.length nx _ (hv.below hqs (Nat.le_refl _)) (by omega) (by omega) hdj
            clear hdj hnx
            have HM := Lib.hid hm; clear hm
            by_cases hle : (lst (msk t nx) : Int) ≤ last
            · have hleb : decide ((lst (msk t nx) : Int) ≤ last) = true := by simpa using hle
              have hG := Lib.hid (partsS_false (t := t) fun h => upTo_bad HU2.out hlm (by rw [HM.out]; exact hle) (h.up k hlt))
              go_wp2_with fail
              refine hcall.mono ?_
              rintro e w3 ⟨u, rfl, hu, hb3⟩
              clear hcall
              change OwnB w3 _ _ u (msk t nx) at hu
              obtain ⟨ub, uo, ucap, hue, huc⟩ := hu.ints.at_
              have hpos : 0 < (bitsI (msk t nx)).length := by have := pop_pos hmf.2 hmf.1; rw [pop_I]; omega
              have hue := hue hpos
              subst hue
              have hcell0 := huc 0 hpos
              rw [bitsI_head hmf.2 hmf.1 hpos, Nat.add_zero] at hcell0
              clear huc
              go_wp2
              go_ret
              exact ⟨ret_bool hG.out.symm, hqs.trans (hb3.mono hBs)⟩
            · have hleb : decide ((lst (msk t nx) : Int) ≤ last) = false := by simpa using hle
              have hG := Lib.hid (upTo_succ HU2.out hlm (by rw [HM.out]; exact hle))
              go_wp2_with fail
              refine hcall.mono ?_
              rintro e w3 ⟨u, rfl, hu, hb3⟩
              clear hcall
              change OwnB w3 _ _ u (msk t nx) at hu
              obtain ⟨ub, uo, ucap, hue, huc⟩ := hu.ints.at_
              have hpos : 0 < (bitsI (msk t nx)).length := by have := pop_pos hmf.2 hmf.1; rw [pop_I]; omega
              have hue := hue hpos
              subst hue
              have hcell0 := huc 0 hpos
              rw [bitsI_head hmf.2 hmf.1 hpos, Nat.add_zero] at hcell0
              clear huc
              go_wp2
              go_roundw
              case rel => exact ⟨r + 1, _, by omega, by go_num, rfl, by have := hG.out; rw [HM.out] at this; exact this, hqs.trans (hb3.mono hBs)⟩
              case measure => simp [intOf]; omega
          · have hall := upTo_all HU2.out (by rw [HKL.out]; omega)
            have HA := Lib.hid hall; clear hall
            go_wp2
            go_roundw
            case rel =>
              refine ⟨k + 1, by omega, by go_num, ?_, fun j hj => ?_, hqs⟩
              · rw [HC2.out, HCE.out] <;> go_num
              · by_cases e : j = k
                · subst e; exact HA.out
                · exact HU.out j (by omega)
            case measure => simp [intOf]; omega
    · obtain rfl : k = t.length := by omega
      have hdj : ∀ j, j ≤ t.length - 1 → Down t j := fun j hj => sok_down (HOK.out.1 j (by omega))
      have hmf := msk_facts (t := t) (t.length - 1) (by omega) hdj
      have hcall := l16Has_any (v := .slice va t.length vc) (t := t) hn t.length (t.length - 1) _ (hv.below hq (Nat.le_refl _)) (by omega) (by omega) hdj
      rw [← HW0.out] at hcall
      clear hdj
      have hpp := pop_pos hmf.2 hmf.1
      have hpl := pop_I (msk t (t.length - 1))
      by_cases hce : pop (msk t (t.length - 1)) = cntK t 0 t.length
      case neg =>
        have hG := Lib.hid (partsS_false (t := t) fun h => hce h.cnt)
        have hcb : (((bitsI (msk t (t.length - 1))).length : Int) == (cntK t 0 t.length : Int)) = false := by rw [hpl, beq_eq_false_iff_ne]; omega
        have HPL := Lib.hid hpl; clear hpl hce
        go_wp2_with fail
        refine hcall.mono ?_
        rintro e w3 ⟨u, rfl, hu, hb3⟩
        clear hcall
        change OwnB w3 _ _ u (msk t (t.length - 1)) at hu
        obtain ⟨ua, uc, rfl⟩ := hu.ints.slice
        go_wp2
        go_ret
        exact ⟨ret_bool hG.out.symm, hq.trans (hb3.mono hB)⟩
      have hcb : (((bitsI (msk t (t.length - 1))).length : Int) == (cntK t 0 t.length : Int)) = true := by rw [hpl, hce]; simp
      have hl1 : 0 < (bitsI (msk t (t.length - 1))).length := by omega
      have hl2 : cntK t 0 t.length - 1 < (bitsI (msk t (t.length - 1))).length := by omega
      have hl3 : ((cntK t 0 t.length : Int) - 1).toNat = cntK t 0 t.length - 1 := by omega
      have hl4 : (0 : Int) ≤ (cntK t 0 t.length : Int) - 1 := by omega
      have hl5 : (cntK t 0 t.length : Int) - 1 < ((bitsI (msk t (t.length - 1))).length : Int) := by omega
      have hG : ((bitsI (msk t (t.length - 1)))[cntK t 0 t.length - 1] == ((cntK t 0 t.length : Int) - 1)) = partsB t := by
        by_cases he : (bitsI (msk t (t.length - 1)))[cntK t 0 t.length - 1] = (cntK t 0 t.length : Int) - 1
        · rw [HSG.out (fun i hi => HU.out i hi) hce (by rw [List.getElem?_eq_getElem hl2, he]), he]; simp
        · rw [partsS_false (t := t) (fun h => he (by have := h.last; rw [List.getElem?_eq_getElem hl2] at this; simpa using this))]
          simpa using he
      have HG := Lib.hid hG; clear hG
      clear hpl hce
      go_wp2_with fail
      refine hcall.mono ?_
      rintro e w3 ⟨u, rfl, hu, hb3⟩
      clear hcall
      change OwnB w3 _ _ u (msk t (t.length - 1)) at hu
      obtain ⟨ub, uo, ucap, hue, huc⟩ := hu.ints.at_
      have hue := hue hl1
      subst hue
      have hcell0 := huc _ hl2
      clear huc
      go_wp2
      go_ret
      exact ⟨ret_bool HG.out, hq.trans (hb3.mono hB)⟩
end Go.Proofs.YtfccpencgengaaaDoor
