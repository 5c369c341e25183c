/- Widths: the reference's search. -/
import Derived.Test.YtfkdhlmigbkefaaDoorWide3
namespace Go.Proofs.YtfkdhlmigbkefaaDoor
open Go.RowKit
theorem Row.kept2 {w w' : World} {x y b n : Nat} {f : Nat → Value} (h : Row w b n f) (hk : Kept2 w w' x y) (hx : b ≠ x) (hy : b ≠ y) : Row w' b n f := fun i hi =>
  h.keep (hk.block b (cell_lt (h i hi).1) hx hy) i hi
set_option maxRecDepth 100000 in
set_option maxHeartbeats 8000000 in
theorem l10From_any {g : List (List Int)} {N : Nat} (hg : GOk g) (h10 : g.length ≤ 10) (hN : bit g.length = N) : ∀ (f : Nat) (v : Value) (gone gb kb : Nat) (K : Nat → Int) (w : World), (leftL g.length gone).length = f → gone < 2 ^ g.length → gb ≠ kb →
    SlR (fun b => b ≠ gb ∧ b ≠ kb ∧ b < w.heap.size) w v g → Row w gb g.length (markV gone) → Row w kb N (tabV K) → Known (netsL g) g.length K →
    Calls Tryd.prog 39 #[.agg #[v], .slice (some ⟨gb, 0, none⟩) g.length g.length, .slice (some ⟨kb, 0, none⟩) N N] w fun e w' => e = .returned (.int .i64 (widthN (netsL g) g.length gone : Int)) ∧ Row w' gb g.length (markV gone) ∧ (∃ K', Row w' kb N (tabV K') ∧ Known (netsL g) g.length K') ∧ Kept2 w w' gb kb := by
  intro f
  induction f using Nat.strongRecOn with
  | ind f ih =>
  intro v gone gb kb K w hf hgo hne hv hm ht hK
  have HIH := Lib.hid ih
  clear ih
  have h0 : 0 < g.length := by have := hg.lo; omega
  have HI := Lib.hid (WideI.of hg)
  have hN1024 := bit_le10 (Nat.le_refl g.length) h10
  have hgN : gone < N := by rw [← hN]; exact hgo
  rw [hN] at hN1024
  have HGO := Lib.hid hgo
  have hgl := hm.lt h0
  have hkl := ht.lt (by omega)
  have hKg := hK gone hgo
  have hq0 : Below w.heap.size w (w.alloc (.cells #[v] 27)) := (Below.refl _ _).alloc (Nat.le_refl _) _
  have hk0 : Kept2 w (w.alloc (.cells #[v] 27)) gb kb := Kept2.of hq0 (Nat.le_refl _)
  have hm0 := hm.below hq0 (Nat.le_refl _)
  have ht0 := ht.below hq0 (Nat.le_refl _)
  have hcode := l10Code_any hm0 h10 hgo
  have hbw : ∀ k, bestI ((leftL k gone).map (costN (netsL g) g.length gone)) = bestI ((leftL k gone).map (costN (netsL g) g.length gone)) := fun _ => rfl
  clear hbw
  obtain ⟨va, vc, rfl⟩ := hv.slice
  obtain ⟨ck, fk⟩ := ht0 gone hgN
  unfold tabV at ck
  have HF := Lib.hid hf
  clear hf hgo
  rcases hKg with hKg | hKg
  rotate_left
  · rw [hKg] at ck
    have hd : decide ((0 : Int) ≤ (widthN (netsL g) g.length gone : Int)) = true := by simp
    clear hKg
    go_enter Tryd.func39, Tryd.ntmps39
    go_wp2_with (go_at_call 65; refine hcode.mono ?_; rintro e w' ⟨rfl, rfl⟩)
    go_ret
    exact ⟨rfl, hm0, ⟨K, ht0, hK⟩, hk0⟩
  rw [hKg] at ck
  clear hKg
  have HK0 := Lib.hid hK
  clear hK
  have HW := Lib.hid (bestI_width (a := netsL g) (n := g.length) (gone := gone))
  go_enter Tryd.func39, Tryd.ntmps39
  go_wp2_with (go_at_call 65; refine hcode.mono ?_; rintro e w' ⟨rfl, rfl⟩)
  go_loopw [8, 9] (fun bs i wr => ∃ (k : Nat) (K' : Nat → Int) (B : Int), k ≤ g.length ∧ i = .int .i64 k ∧ bs = .int .i64 B ∧ RowKit.Hid (B = bestI ((leftL k gone).map (costN (netsL g) g.length gone))) ∧ Row wr gb g.length (markV gone) ∧ Row wr kb N (tabV K') ∧ RowKit.Hid (Known (netsL g) g.length K') ∧ Kept2 w wr gb kb ∧ wr.cell? ⟨w.heap.size, 0, none⟩ = some (.slice va g.length vc)) (fun _ i _ => g.length - (intOf i).toNat)
  case atStart => exact ⟨0, K, -1, Nat.zero_le _, rfl, rfl, Lib.hid (by simp [leftL, bestI]), hm0, ht0, HK0, hk0, by simp [go_sem]⟩
  case round =>
    clear hm0 ht0 hk0 hq0 ck fk hcode hm ht HK0
    obtain ⟨k, K', B, hkn, rfl, rfl, HB, hm, ht, HK, hk, cg⟩ := hrel
    have hvr := hk.rows hv
    have hsz := wSize_any hvr
    have hbd : -1 ≤ B ∧ B ≤ 16 := by rw [HB.out]; exact bestI_bound _
    have hwl : w.heap.size < wr.heap.size := cell_lt cg
    by_cases hlt : k < g.length
    case neg =>
      obtain rfl : k = g.length := by omega
      have hmx := wMax_any B 0
      have hBW : max B 0 = (widthN (netsL g) g.length gone : Int) := by rw [HB.out]; exact HW.out
      rw [hBW] at hmx
      clear hBW
      go_wp2_with fail
      refine hsz.mono ?_
      rintro e w1 ⟨rfl, hb1⟩
      have hm1 := hm.below hb1 (Nat.le_refl _)
      have ht1 := ht.below hb1 (Nat.le_refl _)
      have hk1 := hk.trans (Kept2.of hb1 (Nat.le_refl _))
      obtain ⟨c1, f1⟩ := ht1 gone hgN
      have hm2 := hm1.other (b' := kb) (j := gone) (v := .int .i64 (widthN (netsL g) g.length gone : Int)) hne
      have ht2 := tab_set (x := (widthN (netsL g) g.length gone : Int)) ht1 hgN
      have hk2 := hk1.trans (Kept2.set (w := w1) (x := gb) (y := kb) (z := kb) (j := gone) (v := .int .i64 (widthN (netsL g) g.length gone : Int)) (.inr rfl))
      have HP := Lib.hid (HK.out.put (c := gone))
      unfold tabV at c1
      clear hsz hm ht hk hm1 ht1
      go_wp2_with (go_at_call 66; refine (hmx _).mono ?_; rintro e w' ⟨rfl, rfl⟩)
      go_ret
      exact ⟨rfl, hm2, ⟨_, ht2, HP.out⟩, hk2⟩
    have hls := leftL_succ k gone
    obtain ⟨cm, -⟩ := (hm.below (Below.refl wr.heap.size wr) (Nat.le_refl _)) k hlt
    unfold markV at cm
    cases hb : gone.testBit k
    case true =>
      rw [hb] at cm hls
      simp only [if_true, List.append_nil] at hls
      rw [← hls] at HB
      clear hb hls
      go_wp2_with fail
      refine hsz.mono ?_
      rintro e w1 ⟨rfl, hb1⟩
      have hm1 := hm.below hb1 (Nat.le_refl _)
      have ht1 := ht.below hb1 (Nat.le_refl _)
      have hk1 := hk.trans (Kept2.of hb1 (Nat.le_refl _))
      have cm1 := (hb1.cell (p := ⟨gb, k, none⟩) (cell_lt cm)).trans cm
      have cg1 := (hb1.cell (cell_lt cg)).trans cg
      clear hsz
      go_wp2
      go_roundw
      case rel => exact ⟨k + 1, K', B, by omega, by go_num, rfl, HB, hm1, ht1, HK, hk1, cg1⟩
      case measure => simp [intOf]; omega
    rw [hb] at cm hls
    simp only [Bool.false_eq_true, if_false] at hls
    have hnx := leftL_next hlt hb
    have hsn := bestI_snoc (l := (leftL k gone).map (costN (netsL g) g.length gone)) (costN_le (gone := gone) (v := k) HI.out)
    have hmp : (leftL (k + 1) gone).map (costN (netsL g) g.length gone) = (leftL k gone).map (costN (netsL g) g.length gone) ++ [costN (netsL g) g.length gone k] := by rw [hls, List.map_append]; rfl
    rw [← hmp, ← HB.out] at hsn
    have hcost : max (popN (behindN (netsL g) gone k) : Int) (widthN (netsL g) g.length (gone ||| bit k) : Int) = (costN (netsL g) g.length gone k : Int) := by unfold costN; omega
    have hc16 := costN_le (gone := gone) (v := k) HI.out
    have hp16 : popN (behindN (netsL g) gone k) ≤ 16 := by unfold costN at hc16; omega
    have HSN := Lib.hid hsn
    have hgk := HI.out.or_lt HGO.out hlt
    have hfl : (leftL g.length (gone ||| bit k)).length < f := by rw [← HF.out]; omega
    have hrec := fun (K2 : Nat → Int) (W : World) (hv : SlR (fun b => b ≠ gb ∧ b ≠ kb ∧ b < W.heap.size) W (.slice va g.length vc) g) (h1 : Row W gb g.length (markV (gone ||| bit k))) (h2 : Row W kb N (tabV K2)) (h3 : Known (netsL g) g.length K2) => HIH.out _ hfl (.slice va g.length vc) (gone ||| bit k) gb kb K2 W rfl hgk hne hv h1 h2 h3
    have HREC := Lib.hid hrec
    have hbeh := fun (W : World) (hv : SlR (fun b => b ≠ gb ∧ b ≠ kb ∧ b < W.heap.size) W (.slice va g.length vc) g) (h1 : Row W gb g.length (markV gone)) => l10Behind_any hg hv h1 HGO.out hlt
    have HBEH := Lib.hid hbeh
    have hmx := fun W => wMax_any (popN (behindN (netsL g) gone k) : Int) (widthN (netsL g) g.length (gone ||| bit k) : Int) W
    rw [hcost] at hmx
    have HUN := Lib.hid (fun (W : World) (h : Row W gb g.length (markV (gone ||| bit k))) => mark_unset h hlt hb)
    generalize costN (netsL g) g.length gone k = c at hmx HSN hc16
    generalize widthN (netsL g) g.length (gone ||| bit k) = q at hmx HREC
    clear hb hls hnx hsn hmp hcost hgk hfl hrec hbeh
    go_wp2_with fail
    refine hsz.mono ?_
    rintro e w1 ⟨rfl, hb1⟩
    have hm1 := hm.below hb1 (Nat.le_refl _)
    have ht1 := ht.below hb1 (Nat.le_refl _)
    have hk1 := hk.trans (Kept2.of hb1 (Nat.le_refl _))
    have cm1 := (hb1.cell (p := ⟨gb, k, none⟩) (cell_lt cm)).trans cm
    have cg1 := (hb1.cell (cell_lt cg)).trans cg
    have hv1 := hk1.rows hv
    clear hsz hm ht hk cm cg hvr hb1
    go_wp2_with fail
    refine (HBEH.out _ hv1 hm1).mono ?_
    rintro e w2 ⟨oa, oc, rfl, hb2⟩
    have hm2 := hm1.below hb2 (Nat.le_refl _)
    have ht2 := ht1.below hb2 (Nat.le_refl _)
    have hk2 := hk1.trans (Kept2.of hb2 (Nat.le_refl _))
    have cg2 := (hb2.cell (cell_lt cg1)).trans cg1
    obtain ⟨cm2, fm2⟩ := hm2 k hlt
    unfold markV at cm2
    have hm3 := mark_set hm2 hlt
    have ht3 := ht2.other (b' := gb) (j := k) (v := .bool true) (fun e => hne e.symm)
    have hs3 := Kept2.set (w := w2) (x := gb) (y := kb) (z := gb) (j := k) (v := .bool true) (.inl rfl)
    have hk3 := hk2.trans hs3
    have cg3 := hs3.cell cg2 (by omega) (by omega)
    have hv3 := hk3.rows hv
    clear HBEH hm1 ht1 hk1 cm1 cg1 hv1 hb2
    go_wp2_with fail
    refine (HREC.out K' _ hv3 hm3 ht3 HK.out).mono ?_
    rintro e w4 ⟨rfl, hm4, ⟨K4, ht4, hK4⟩, hk34⟩
    have hk4 := hk3.trans hk34
    have cg4 := hk34.cell cg3 (by omega) (by omega)
    have HK4 := Lib.hid hK4
    have hm5 := HUN.out _ hm4
    obtain ⟨cm4, fm4⟩ := hm4 k hlt
    unfold markV at cm4
    have ht5 := ht4.other (b' := gb) (j := k) (v := .bool false) (fun e => hne e.symm)
    have hs5 := Kept2.set (w := w4) (x := gb) (y := kb) (z := gb) (j := k) (v := .bool false) (.inl rfl)
    have hk5 := hk4.trans hs5
    have cg5 := hs5.cell cg4 (by omega) (by omega)
    clear HREC hm2 ht2 hk2 cm2 fm2 cg2 hm3 ht3 hk3 cg3 hv3 hs3 hk34 hs5 hK4 HK
    by_cases h1 : B < 0
    · have HB2 : RowKit.Hid ((c : Int) = bestI ((leftL (k + 1) gone).map (costN (netsL g) g.length gone))) := Lib.hid (by rw [HSN.out, if_pos (.inl h1)])
      go_wp2_with (go_at_call 66; refine (hmx _).mono ?_; rintro e w' ⟨rfl, rfl⟩)
      go_roundw
      case rel => exact ⟨k + 1, K4, c, by omega, by go_num, rfl, HB2, hm5, ht5, HK4, hk5, cg5⟩
      case measure => simp [intOf]; omega
    · by_cases h2 : (c : Int) < B
      · have HB2 : RowKit.Hid ((c : Int) = bestI ((leftL (k + 1) gone).map (costN (netsL g) g.length gone))) := Lib.hid (by rw [HSN.out, if_pos (.inr h2)])
        go_wp2_with (go_at_call 66; refine (hmx _).mono ?_; rintro e w' ⟨rfl, rfl⟩)
        go_roundw
        case rel => exact ⟨k + 1, K4, c, by omega, by go_num, rfl, HB2, hm5, ht5, HK4, hk5, cg5⟩
        case measure => simp [intOf]; omega
      · have HB2 : RowKit.Hid (B = bestI ((leftL (k + 1) gone).map (costN (netsL g) g.length gone))) := Lib.hid (by rw [HSN.out, if_neg (by rintro (h | h); exact h1 h; exact h2 h)])
        go_wp2_with (go_at_call 66; refine (hmx _).mono ?_; rintro e w' ⟨rfl, rfl⟩)
        go_roundw
        case rel => exact ⟨k + 1, K4, B, by omega, by go_num, rfl, HB2, hm5, ht5, HK4, hk5, cg5⟩
        case measure => simp [intOf]; omega
end Go.Proofs.YtfkdhlmigbkefaaDoor
