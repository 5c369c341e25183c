/- Trees of parts: the reference's walk. -/
import Derived.Test.YtfccpencgengaaaDoorPartO
namespace Go.Proofs.YtfccpencgengaaaDoor
open Go.RowKit
theorem SlP.at_ {S : Nat → Prop} {w : World} {v : Value} {t : List PNode} (h : SlP S w v t) : ∃ (b off cap : Nat) (f : Nat → Value), (0 < t.length → v = .slice (some ⟨b, off, none⟩) t.length cap) ∧ ∀ i (h : i < t.length),
    w.cell? ⟨b, off + i * 3, none⟩ = some (.int .i64 t[i].kind) ∧ w.cell? ⟨b, off + i * 3 + 1, none⟩ = some (.int .i64 t[i].vertex) ∧ w.cell? ⟨b, off + i * 3 + 2, none⟩ = some (f i) ∧ SlI S w .i64 (f i) t[i].kids := by
  obtain ⟨a, b, off, cap, f, rfl, hl, ha, hc⟩ := h
  exact ⟨b, off, cap, f, fun h0 => by rw [(ha h0).1], hc⟩
theorem take_rev {xs : List Int} {m : Nat} (hm : m < xs.length) : (xs.take (m + 1)).reverse = xs[m] :: (xs.take m).reverse := by
  rw [List.take_succ_eq_append_getElem hm, List.reverse_append]; rfl
set_option maxHeartbeats 4000000 in
theorem l16Walk_any {S : Nat → Prop} {v : Value} {t : List PNode} (hn : t.length ≤ 1048576) : ∀ (f i : Nat) (w : World), SlP S w v t → i < f → i < t.length →
    Calls Tryd.prog 117 #[v, .int .i64 (i : Int)] w fun e w' => e = .returned (.int .i64 (walkF f t i)) ∧ Below w.heap.size w w' := by
  intro f
  induction f with
  | zero => intro i w _ h; omega
  | succ f ih =>
    intro i w hv hif hi
    obtain ⟨b, off, cap, g, hve, hc⟩ := hv.at_
    have hve := hve (by omega)
    subst hve
    obtain ⟨c1, c2, c3, hr⟩ := hc i hi
    clear hc
    have hnd : nd t i = t[i] := nd_get hi
    have hwf : walkF (f + 1) t i = if t[i].kind = 1 then (if 0 < t[i].kids.length ∨ ¬ (0 ≤ t[i].vertex ∧ t[i].vertex ≤ 15) then -1 else 1)
      else if ¬ (2 ≤ t[i].kind ∧ t[i].kind ≤ 4) ∨ t[i].vertex ≠ 0 ∨ t[i].kids.length < 2 then -1 else kidsWalk (walkF f t) t[i].kids.reverse 1 ((i : Int) - 1) := by rw [walkF, hnd]
    clear hnd
    obtain ⟨ka, kc, hge⟩ := hr.slice
    have hrl := hr.len
    rw [hge] at c3 hr
    clear hge
    generalize hp : t[i] = p at *
    clear hp
    obtain ⟨kind, vertex, kids⟩ := p
    simp only at c1 c2 c3 hr hwf hrl
    have HW := Lib.hid hwf; clear hwf
    have hq0 : Below w.heap.size w (w.alloc (.cells #[.int .i64 kind, .int .i64 vertex, .slice ka kids.length kc] 106)) := (Below.refl _ _).alloc (Nat.le_refl _) _
    by_cases hk : kind = 1
    · have hkb : (kind == 1) = true := by simp [hk]
      have HK := Lib.hid hk; clear hk
      by_cases hl : 0 < kids.length
      · have hlb : decide ((0 : Int) < (kids.length : Int)) = true := by simp; omega
        go_enter Tryd.func117, Tryd.ntmps117
        go_wp2
        go_ret
        exact ⟨ret_int (by rw [HW.out, if_pos HK.out, if_pos (.inl hl)]), hq0⟩
      · have hlb : decide ((0 : Int) < (kids.length : Int)) = false := decide_eq_false (by omega)
        by_cases hin : 0 ≤ vertex ∧ vertex ≤ 15
        · have hbb := inB_true hin
          go_enter Tryd.func117, Tryd.ntmps117
          go_wp2_with (go_at_call 93; refine (l1In_any _ _ _ _).mono ?_; rintro e w' ⟨rfl, rfl⟩)
          go_ret
          exact ⟨ret_int (by rw [HW.out, if_pos HK.out, if_neg (fun h => h.elim hl (fun h => h hin))]), hq0⟩
        · have hbb := inB_false hin
          go_enter Tryd.func117, Tryd.ntmps117
          go_wp2_with (go_at_call 93; refine (l1In_any _ _ _ _).mono ?_; rintro e w' ⟨rfl, rfl⟩)
          go_ret
          exact ⟨ret_int (by rw [HW.out, if_pos HK.out, if_pos (.inr hin)]), hq0⟩
    have hkb : (kind == 1) = false := by simpa using hk
    by_cases hin : 2 ≤ kind ∧ kind ≤ 4
    case neg =>
      have hbb := inB_false hin
      go_enter Tryd.func117, Tryd.ntmps117
      go_wp2_with (go_at_call 93; refine (l1In_any _ _ _ _).mono ?_; rintro e w' ⟨rfl, rfl⟩)
      go_ret
      exact ⟨ret_int (by rw [HW.out, if_neg hk, if_pos (.inl hin)]), hq0⟩
    have hbb := inB_true hin
    by_cases hvx : vertex = 0
    case neg =>
      have hvb : (vertex != 0) = true := by simpa using hvx
      go_enter Tryd.func117, Tryd.ntmps117
      go_wp2_with (go_at_call 93; refine (l1In_any _ _ _ _).mono ?_; rintro e w' ⟨rfl, rfl⟩)
      go_ret
      exact ⟨ret_int (by rw [HW.out, if_neg hk, if_pos (.inr (.inl hvx))]), hq0⟩
    have hvb : (vertex != 0) = false := by simpa using hvx
    have HV := Lib.hid hvx; clear hvx
    by_cases hl : 2 ≤ kids.length
    case neg =>
      have hlb : decide ((kids.length : Int) < 2) = true := by simp; omega
      go_enter Tryd.func117, Tryd.ntmps117
      go_wp2_with (go_at_call 93; refine (l1In_any _ _ _ _).mono ?_; rintro e w' ⟨rfl, rfl⟩)
      go_ret
      exact ⟨ret_int (by rw [HW.out, if_neg hk, if_pos (.inr (.inr (by omega)))]), hq0⟩
    have hlb : decide ((kids.length : Int) < 2) = false := by simp; omega
    have HW2 := Lib.hid (HW.out.trans (by rw [if_neg hk, if_neg (fun h => h.elim (fun h => h hin) (fun h => h.elim (fun h => h HV.out) (fun h => by omega)))]))
    clear HW
    go_enter Tryd.func117, Tryd.ntmps117
    go_wp2_with (go_at_call 93; refine (l1In_any _ _ _ _).mono ?_; rintro e w' ⟨rfl, rfl⟩)
    go_loopw [6, 7, 8] (fun o n k wr => ∃ (m : Nat) (many next : Int), m ≤ kids.length ∧ o = .int .i64 many ∧ n = .int .i64 next ∧ k = .int .i64 ((m : Int) - 1) ∧ 1 ≤ many ∧ -1 ≤ next ∧ many + next = i ∧
        kidsWalk (walkF f t) (kids.take m).reverse many next = kidsWalk (walkF f t) kids.reverse 1 ((i : Int) - 1) ∧ Below w.heap.size w wr ∧ wr.cell? ⟨w.heap.size, 2, none⟩ = some (.slice ka kids.length kc)) (fun _ _ k _ => (intOf k + 1).toNat)
    case atStart => exact ⟨kids.length, 1, (i : Int) - 1, Nat.le_refl _, rfl, rfl, rfl, by omega, by omega, by omega, by rw [List.take_length], hq0, by simp [go_sem]⟩
    case round =>
      obtain ⟨m, many, next, hm, rfl, rfl, rfl, h1, h2, h3, hw, hq, hbx⟩ := hrel
      have HW := Lib.hid hw; clear hw
      have HS := Lib.hid h3
      by_cases hm0 : m = 0
      · subst hm0
        have hr := HW.out
        rw [List.take_zero, List.reverse_nil, kidsWalk, ← HW2.out] at hr
        have HR := Lib.hid hr; clear hr h3
        go_wp2
        go_ret
        exact ⟨ret_int HR.out, hq⟩
      · obtain ⟨m, rfl⟩ : ∃ m', m = m' + 1 := ⟨m - 1, by omega⟩
        have hmi : (((m + 1 : Nat) : Int) - 1) = (m : Int) := by omega
        rw [hmi]
        clear hmi
        obtain ⟨kb, ko, kcap, hke, hkc⟩ := (hr.below hq (Nat.le_refl _)).at_
        have hke := hke (by omega)
        simp only [Value.slice.injEq, true_and] at hke
        obtain ⟨rfl, rfl⟩ := hke
        have hcell := hkc m (by omega)
        clear hkc
        have hstep := take_rev (xs := kids) (m := m) (by omega)
        have hw2 := HW.out
        rw [hstep, kidsWalk] at hw2
        have HX := Lib.hid hw2; clear hw2 hstep HW
        by_cases hneg : next < 0
        · have hnb : decide (next < 0) = true := by simpa using hneg
          clear h3
          go_wp2
          go_ret
          exact ⟨ret_int (by rw [HW2.out, ← HX.out, if_pos (.inl hneg)]), hq⟩
        have hnb : decide (next < 0) = false := by simpa using hneg
        by_cases hkn : kids[m] = next
        case neg =>
          have hkb : (kids[m] != next) = true := by simpa using hkn
          clear h3
          go_wp2
          go_ret
          exact ⟨ret_int (by rw [HW2.out, ← HX.out, if_pos (.inr hkn)]), hq⟩
        have hkb : (kids[m] != next) = false := by simpa using hkn
        have HKN := Lib.hid hkn; clear hkn
        obtain ⟨nx, rfl⟩ := Int.eq_ofNat_of_zero_le (by omega : 0 ≤ next)
        have hbd := walkF_bound t f nx
        have hcall := ih nx _ (hv.below hq (Nat.le_refl _)) (by omega) (by omega)
        by_cases hwn : walkF f t nx < 0
        · have hwb : decide (walkF f t nx < 0) = true := by simpa using hwn
          clear h3
          go_wp2_with fail
          refine hcall.mono ?_
          rintro e w2 ⟨rfl, hb2⟩
          go_wp2
          go_ret
          exact ⟨ret_int (by rw [HW2.out, ← HX.out, if_neg (fun h => h.elim (fun h => by omega) (fun h => h HKN.out)), Int.toNat_natCast, if_pos hwn]), hq.trans (hb2.mono hq.size)⟩
        · have hwb : decide (walkF f t nx < 0) = false := by simpa using hwn
          have hx2 := HX.out
          rw [if_neg (fun h => h.elim (fun h => by omega) (fun h => h HKN.out)), Int.toNat_natCast, if_neg hwn] at hx2
          have HX2 := Lib.hid hx2; clear hx2 HX h3
          have hs := HS.out
          have hbd1 : 1 ≤ walkF f t nx := by omega
          have hbd2 : walkF f t nx ≤ (nx : Int) + 1 := by omega
          have hnx : (nx : Int) ≤ 2000000 := by omega
          clear hbd
          have hs1 : many + walkF f t nx ≤ 2000000 := by omega
          clear hs
          go_wp2_with fail
          refine hcall.mono ?_
          rintro e w2 ⟨rfl, hb2⟩
          have hbx2 := (hb2.cell (cell_lt hbx)).trans hbx
          go_wp2
          go_roundw
          case rel =>
            have hs := HS.out
            exact ⟨m, _, _, by omega, rfl, rfl, rfl, by omega, by omega, by omega, HX2.out, hq.trans (hb2.mono hq.size), hbx2⟩
          case measure => simp [intOf] <;> omega
end Go.Proofs.YtfccpencgengaaaDoor
