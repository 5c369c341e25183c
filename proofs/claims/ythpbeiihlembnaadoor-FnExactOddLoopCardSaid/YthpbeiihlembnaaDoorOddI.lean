/- OddLoop of the program. -/
import Derived.Test.YthpbeiihlembnaaDoorOddS
import Derived.Test.YthpbeiihlembnaaDoorSidI
namespace Go.Proofs.YthpbeiihlembnaaDoor
open Go.RowKit
theorem gstep_two {H : List Nat} {n : Nat} : GStep H n 2 = OddN H n := by
  funext q
  apply propext
  exact ⟨fun ⟨h, j, e⟩ => ⟨h, by omega⟩, fun ⟨h, e⟩ => ⟨h, (q.length - 3) / 2, by have := h.three; omega⟩⟩
set_option maxRecDepth 100000 in
set_option maxHeartbeats 8000000 in
theorem implOddLoop_any {S : Nat → Prop} {v : Value} {g : List (List Int)} {w : World} (ht : Tab w) (hv : SlR S w v g) :
    Calls Tryd.prog 27 #[.agg #[v]] w fun e w' => ∃ u, e = .returned u ∧ Own w' w.heap.size 2 1 u (natsI (oddF g)).length ((natsI (oddF g)).map (.int .i64)) ∧ Below w.heap.size w w' := by
  obtain ⟨va, vc, rfl⟩ := hv.slice
  have hb0 : Below w.heap.size w (w.alloc (.cells #[.slice va g.length vc] 29)) := (Below.refl _ _).alloc (Nat.le_refl _) _
  have hsd := sidesI_any (ht.below hb0 (Nat.le_refl _)) (hv.below hb0 (Nat.le_refl _))
  have hgo := fun (W : World) (hb : Below w.heap.size w W) => implGraphOk_any _ _ _ (hv.below hb (Nat.le_refl _))
  go_enter Tryd.func27, Tryd.ntmps27
  go_wp2_with fail
  refine hsd.mono ?_
  rintro e w1 ⟨x, b, rfl, hbt, -, hb1⟩
  have hq1 := hb0.trans (hb1.mono hb0.size)
  have c1 : w1.cell? ⟨w.heap.size, 0, none⟩ = some (.slice va g.length vc) := (hb1.cell (p := ⟨w.heap.size, 0, none⟩) (by simp)).trans (by simp [go_sem])
  clear hsd hb0 hb1
  cases b with
  | true =>
    obtain ⟨hgb, C, hz, hc, -⟩ := hbt rfl
    have HE := Lib.hid (show oddF g = [] by rw [oddF, if_pos hgb, pick_none (fun q hq => two_no_odd hz hc q hq.cw)])
    clear hbt hgb hc
    go_wp2
    go_ret
    rw [HE.out]
    exact ⟨_, rfl, by simpa [natsI] using Own.nil w1 w.heap.size 2 1, hq1⟩
  | false =>
    clear hbt
    have hg1 := hgo _ hq1
    by_cases hgb : gokB g = true
    case neg =>
      have HE := Lib.hid (show oddF g = [] by rw [oddF, if_neg hgb])
      rw [Bool.not_eq_true] at hgb
      rw [hgb] at hg1
      clear hgb
      go_wp2_with fail
      refine hg1.mono ?_
      rintro e w2 ⟨rfl, hb2⟩
      go_wp2
      go_ret
      rw [HE.out]
      exact ⟨_, rfl, by simpa [natsI] using Own.nil w2 w.heap.size 2 1, hq1.trans (hb2.mono hq1.size)⟩
    have hg := gokB_iff.1 hgb
    have HE := Lib.hid (show oddF g = pickG (OddN (netsL g) g.length) by rw [oddF, if_pos hgb])
    rw [hgb] at hg1
    have HN := Lib.hid (nets_NetI hg)
    have HG := Lib.hid hg
    have hlen := netsL_len g
    clear hgb hg
    go_wp2_with fail
    refine hg1.mono ?_
    rintro e w2 ⟨rfl, hb2⟩
    have hq2 := hq1.trans (hb2.mono hq1.size)
    have c2 := (hb2.cell (cell_lt c1)).trans c1
    clear c1 hg1 hgo
    go_wp2_with fail
    refine (netsOf_any _ _ _ (hv.below hq2 (Nat.le_refl _)) HG.out).mono ?_
    rintro e w4 ⟨nb, rfl, hnb, hb4⟩
    have hq4 := hq2.trans (hb4.mono hq2.size)
    have hsl := smallestLoop_any (step := 2) (ht.below hq4 (Nat.le_refl _)) HN.out (hnb.ints (by have := HG.out.hi; omega)) (by omega)
    rw [gstep_two, hlen] at hsl
    have hpl := pickG_len (G := OddN (netsL g) g.length) (n := 16) (fun q hq => by have := loop_len hq.1.path; have := HG.out.hi; omega)
    obtain ⟨r, hr⟩ : ∃ r, r = pickG (OddN (netsL g) g.length) := ⟨_, rfl⟩
    rw [← hr] at hsl hpl
    have HRR := Lib.hid hr
    clear hr
    go_wp2_with fail
    refine hsl.mono ?_
    rintro e w5 ⟨u, rfl, hor, hu, hb5⟩
    have hq5 := hq4.trans (hb5.mono hq4.size)
    have hq5s := hq5.size
    clear hsl
    go_wp2_with fail
    refine (loopResult_any hor hu (by omega)).mono ?_
    rintro e w6 ⟨x, rfl, hx, hb6⟩
    go_wp2
    go_ret
    rw [HE.out, ← HRR.out]
    exact ⟨_, rfl, Own.weak hx (by omega), hq5.trans (hb6.mono hq5.size)⟩
end Go.Proofs.YthpbeiihlembnaaDoor
