/- The graph that an order makes of a graph. -/
import Derived.Test.YtplohdnakllbiaaOrb3
namespace Go.Proofs.Ytplohdnakllbiaa
open Go.RowKit
theorem natsI_getE2 {l : List Nat} {k : Nat} (hk : k < (natsI l).length) (hk2 : k < l.length) : (natsI l)[k] = (l[k] : Nat) := by simp [natsI]
def ordE (g : List (List Int)) (ord : List Nat) (x y : Nat) : Bool := decide (((ord.getD y 0 : Nat) : Int) ∈ g.getD (ord.getD x 0) [])
set_option maxRecDepth 100000 in
set_option maxHeartbeats 4000000 in
theorem l2Of_any {S S' : Nat → Prop} {gv lv : Value} {g : List (List Int)} {ord : List Nat} {w : World} (hvg : SlR S w gv g) (hl : SlI S' w .i64 lv (natsI ord)) (ho : ∀ x ∈ ord, x < g.length) (h16 : ord.length ≤ 16) :
    Calls Try.prog 86 #[.agg #[gv], lv] w fun e w' => ∃ u M, e = .returned (.agg #[u]) ∧ OwnR w' w.heap.size w'.heap.size 25 2 u (M.map bitsI) ∧ LkG (ordE g ord) ord.length ord.length 0 M ∧ Below w.heap.size w w' := by
  obtain ⟨ga, gc, rfl⟩ := hvg.slice
  have hq0 : Below w.heap.size w ((w.alloc (.cells #[.slice ga g.length gc] 31)).alloc (.cells #[.slice none 0 0] 31)) := ((Below.refl _ _).alloc (Nat.le_refl _) _).alloc (by simp) _
  have hr0 := own_new (w.alloc (.cells #[.slice ga g.length gc] 31)) (w.heap.size + 1) 31 (.slice none 0 0) (by simp)
  rw [show (w.alloc (.cells #[.slice ga g.length gc] 31)).heap.size = w.heap.size + 1 by simp] at hr0
  have hem := l1Empty_any (w := ((w.alloc (.cells #[.slice ga g.length gc] 31)).alloc (.cells #[.slice none 0 0] 31))) h16
  obtain ⟨la, lb, lo, lc, rfl, hll, hla, hlc⟩ := hl
  rw [natsI_len] at *
  go_enter Try.func86, Try.ntmps86
  go_wp2_with fail
  refine hem.mono ?_
  rintro e w1 ⟨u1, rfl, hu1, hb1⟩
  have hq1 := hq0.trans (hb1.mono hq0.size)
  have c3 : w1.cell? ⟨w.heap.size, 0, none⟩ = some (.slice ga g.length gc) := (hb1.cell (p := ⟨w.heap.size, 0, none⟩) (by simp <;> omega)).trans (by simp [go_sem])
  have hr1 := hr0.below hb1 (Nat.le_refl _)
  have hw1s : w.heap.size + 1 < w1.heap.size := (hr1.lt _ rfl).2
  rw [repl_bits] at hu1
  obtain ⟨ua, uc, rfl⟩ := hu1.isSlice
  rw [List.length_map, List.length_replicate] at *
  have hb2 : Below w1.heap.size w1 (w1.alloc (.cells #[.slice ua ord.length uc] 31)) := (Below.refl _ _).alloc (Nat.le_refl _) _
  have hq2 := hq1.trans (hb2.mono hq1.size)
  have c3 := (hb2.cell (cell_lt c3)).trans c3
  have hr2 := hr1.below hb2 (Nat.le_refl _)
  have hu2 := ((hu1.below hb2 (Nat.le_refl _)).weaken (by simp <;> omega) hb2.size : OwnR (w1.alloc (.cells #[.slice ua ord.length uc] 31)) (w.heap.size + 1) _ _ _ _ _)
  have ho2 := own_new w1 w.heap.size 31 (.slice ua ord.length uc) hq1.size
  clear hem hu1 hr0 hr1 hq0 hb1 hb2
  have hL0 := Lib.hid (LkG.start (ordE g ord) ord.length)
  generalize List.replicate ord.length 0 = M0 at *
  go_wp2
  go_loopw [6] (fun iv wr => ∃ (i : Nat) (u : Value) (M : List Nat), i ≤ ord.length ∧ iv = .int .i64 i ∧ OwnR wr (w.heap.size + 1) wr.heap.size 25 2 u (M.map bitsI) ∧ RowKit.Hid (LkG (ordE g ord) ord.length i 0 M) ∧ Own wr w.heap.size 31 1 (.slice (some ⟨w1.heap.size, 0, none⟩) 1 1) 1 [u] ∧ Own wr (w.heap.size + 1) 31 1 (.slice (some ⟨w.heap.size + 1, 0, none⟩) 1 1) 1 [.slice none 0 0] ∧ Below w.heap.size w wr ∧ wr.cell? ⟨w.heap.size, 0, none⟩ = some (.slice ga g.length gc)) (fun iv _ => ord.length - (intOf iv).toNat)
  case atStart => exact ⟨0, _, _, Nat.zero_le _, rfl, hu2, hL0, ho2, hr2, hq2, c3⟩
  case round =>
    clear hu2 hL0 ho2 hr2 hq2 c3
    obtain ⟨i, u, M, hi, rfl, hR, hL, hou, hr, hq, c3⟩ := hrel
    obtain ⟨wi, rfl⟩ : ∃ wx : World, wx = wr := ⟨_, rfl⟩
    by_cases hlt : i < ord.length
    case neg =>
      obtain rfl : i = ord.length := by omega
      obtain ⟨ua, uc, rfl⟩ := hR.isSlice
      rw [List.length_map] at *
      obtain ⟨o1, o2, -, -⟩ := own_cell hou
      obtain ⟨r1, r2, -, -⟩ := own_cell hr
      go_wp2
      refine bodyPost_ret (v := .agg #[.slice ua M.length uc]) (by simp [results, Try.results86, go_sem, r1]) rfl ⟨_, M, rfl, ?_, hL.out, ?_⟩
      · exact (hR.setOther hr (by decide) (by decide) _).weaken (by omega) (by simp)
      · exact hq.setCell (by simp) _
    have hci := hlc i (by rw [natsI_len]; exact hlt)
    rw [natsI_getE2 _ hlt] at hci
    have hxi : ord[i] < g.length := ho _ (List.getElem_mem hlt)
    have hEi := Lib.hid (show ∀ k, k < ord.length → ordE g ord i k = decide (((ord.getD k 0 : Nat) : Int) ∈ g.getD ord[i] []) from fun k hk => by simp [ordE, hlt])
    generalize ord[i] = xi at *
    obtain ⟨rfl, -⟩ := hla (by omega)
    have hL0 := hL
    go_wp2
    go_loopw [7] (fun kv wr => ∃ (k : Nat) (u : Value) (M : List Nat), k ≤ i ∧ kv = .int .i64 k ∧ OwnR wr (w.heap.size + 1) wr.heap.size 25 2 u (M.map bitsI) ∧ RowKit.Hid (LkG (ordE g ord) ord.length i k M) ∧ Own wr w.heap.size 31 1 (.slice (some ⟨w1.heap.size, 0, none⟩) 1 1) 1 [u] ∧ Own wr (w.heap.size + 1) 31 1 (.slice (some ⟨w.heap.size + 1, 0, none⟩) 1 1) 1 [.slice none 0 0] ∧ Below w.heap.size w wr ∧ wr.cell? ⟨w.heap.size, 0, none⟩ = some (.slice ga g.length gc)) (fun kv _ => i - (intOf kv).toNat)
    case atStart => exact ⟨0, _, _, Nat.zero_le _, rfl, hR, hL0, hou, hr, hq, c3⟩
    case round =>
      clear hR hL hL0 hou hr hq c3
      obtain ⟨wj, rfl⟩ : ∃ wx : World, wx = wr := ⟨_, rfl⟩
      obtain ⟨k, u, M, hk, rfl, hR, hL, hou, hr, hq, c3⟩ := hrel
      by_cases hkl : k < i
      case neg =>
        obtain rfl : k = i := by omega
        go_wp2
        go_roundw
        case rel => exact ⟨k + 1, _, _, by omega, by go_num, hR, Lib.hid hL.out.next, hou, hr, hq, c3⟩
        case measure => simp [intOf]; omega
      have hkn : k < ord.length := by omega
      have hck := hlc k (by rw [natsI_len]; exact hkn)
      rw [natsI_getE2 _ hkn] at hck
      have hEk := hEi.out k hkn
      rw [show ord.getD k 0 = ord[k] by simp [hkn]] at hEk
      generalize ord[k] = xk at *
      have hciw := (hq.cell (cell_lt hci)).trans hci
      have hckw := (hq.cell (cell_lt hck)).trans hck
      have hed := fun (W : World) (hb : Below w.heap.size w W) => l1Edge_any (hvg.below hb (Nat.le_refl _)) (u := xi) (x := (xk : Int)) hxi
      have HEK := Lib.hid hEk; clear hEk
      generalize hbb : decide ((xk : Int) ∈ g.getD xi []) = bb at *
      have HBB := Lib.hid hbb; clear hbb
      have HML := Lib.hid hL.out.1
      go_wp2
      refine wp_region_held_drew (S := (fun w' => w'.cell? ⟨w.heap.size, 0, none⟩ = some (.slice ga g.length gc) ∧ w'.cell? ⟨lb, lo + i, none⟩ = some (.int .i64 (xi : Int)) ∧ w'.cell? ⟨lb, lo + k, none⟩ = some (.int .i64 (xk : Int)))) (by kernel_rfl) ?_ (fun hHeld => ?_)
      · first | exact ⟨‹_›, ‹_›, ‹_›⟩ | (simp [*, go_sem])
      have hqd := hq.drew
      have hRd := hR.drewR
      have houd := hou.drawn (Drawn.refl _).drew
      have hrd := hr.drawn (Drawn.refl _).drew
      have hszd : wj.drew.heap.size = wj.heap.size := rfl
      generalize wj.drew = wd at hqd hRd houd hrd hszd hHeld ⊢
      have hHeld2 := hHeld
      obtain ⟨d0, d1, d2⟩ := hHeld2
      refine wpAnyH_take (i := 0) (v := ?v1) (by simp only [List.getElem?_toArray, List.getElem?_cons_zero]; exact rfl) (by kernel_rfl) (by kernel_rfl) (by kernel_rfl) (by intro _ _ _ h; exact h) (Or.inl ⟨by rfl, ?y1⟩) hHeld ?_
      case y1 => (intro w hSw; (try dsimp only at hSw); go_simp; try (with_reducible rfl))
      try simp only [Act.put, List.setIfInBounds_toArray, List.set_cons_zero, List.set_cons_succ]
      refine wpAnyH_take (i := 1) (v := ?v2) (by simp only [List.getElem?_toArray, List.getElem?_cons_succ, List.getElem?_cons_zero]; exact rfl) (by kernel_rfl) (by kernel_rfl) (by kernel_rfl) (by intro _ _ _ h; exact h) (Or.inl ⟨by rfl, ?y2⟩) hHeld ?_
      case y2 => (intro w hSw; (try dsimp only at hSw); go_simp; try (with_reducible rfl))
      try simp only [Act.put, List.setIfInBounds_toArray, List.set_cons_zero, List.set_cons_succ]
      refine wpAnyH_take (i := 2) (v := ?v3) (by simp only [List.getElem?_toArray, List.getElem?_cons_succ, List.getElem?_cons_zero]; exact rfl) (by kernel_rfl) (by kernel_rfl) (by kernel_rfl) (by intro _ _ _ h; exact h) (Or.inl ⟨by rfl, ?y3⟩) hHeld ?_
      case y3 => (intro w hSw; (try dsimp only at hSw); go_simp; try (with_reducible rfl))
      try simp only [Act.put, List.setIfInBounds_toArray, List.set_cons_zero, List.set_cons_succ]
      refine wpAnyH_take (i := 3) (v := ?v4) (by simp only [List.getElem?_toArray, List.getElem?_cons_succ, List.getElem?_cons_zero]; exact rfl) (by kernel_rfl) (by kernel_rfl) (by kernel_rfl) (by intro _ _ _ h; exact h) (Or.inl ⟨by rfl, ?y4⟩) hHeld ?_
      case y4 => (intro w hSw; (try dsimp only at hSw); go_simp; try (with_reducible rfl))
      try simp only [Act.put, List.setIfInBounds_toArray, List.set_cons_zero, List.set_cons_succ]
      refine wpAnyH_take (i := 4) (v := ?v5) (by simp only [List.getElem?_toArray, List.getElem?_cons_succ, List.getElem?_cons_zero]; exact rfl) (by kernel_rfl) (by kernel_rfl) (by kernel_rfl) (by intro _ _ _ h; exact h) (Or.inl ⟨by rfl, ?y5⟩) hHeld ?_
      case y5 => (intro w hSw; (try dsimp only at hSw); go_simp; try (with_reducible rfl))
      try simp only [Act.put, List.setIfInBounds_toArray, List.set_cons_zero, List.set_cons_succ]
      refine wpAnyH_take (i := 5) (v := ?v6) (by simp only [List.getElem?_toArray, List.getElem?_cons_succ, List.getElem?_cons_zero]; exact rfl) (by kernel_rfl) (by kernel_rfl) (by kernel_rfl) (by intro _ _ _ h; exact h) (Or.inl ⟨by rfl, ?y6⟩) hHeld ?_
      case y6 => (intro w hSw; (try dsimp only at hSw); go_simp; try (with_reducible rfl))
      try simp only [Act.put, List.setIfInBounds_toArray, List.set_cons_zero, List.set_cons_succ]
      refine wpAnyH_take (i := 6) (v := ?v7) (by simp only [List.getElem?_toArray, List.getElem?_cons_succ, List.getElem?_cons_zero]; exact rfl) (by kernel_rfl) (by kernel_rfl) (by kernel_rfl) (by intro _ _ _ h; exact h) (Or.inl ⟨by rfl, ?y7⟩) hHeld ?_
      case y7 => (intro w hSw; (try dsimp only at hSw); go_simp; try (with_reducible rfl))
      try simp only [Act.put, List.setIfInBounds_toArray, List.set_cons_zero, List.set_cons_succ]
      refine wpAnyH_take (i := 7) (v := ?v8) (by simp only [List.getElem?_toArray, List.getElem?_cons_succ, List.getElem?_cons_zero]; exact rfl) (by kernel_rfl) (by kernel_rfl) (by kernel_rfl) (by intro _ _ _ h; exact h) (Or.inl ⟨by rfl, ?y8⟩) hHeld ?_
      case y8 => (intro w hSw; (try dsimp only at hSw); go_simp; try (with_reducible rfl))
      try simp only [Act.put, List.setIfInBounds_toArray, List.set_cons_zero, List.set_cons_succ]
      refine wpAnyH_take (i := 8) (v := ?v9) (by simp only [List.getElem?_toArray, List.getElem?_cons_succ, List.getElem?_cons_zero]; exact rfl) (by kernel_rfl) (by kernel_rfl) (by kernel_rfl) (by intro _ _ _ h; exact h) (Or.inl ⟨by rfl, ?y9⟩) hHeld ?_
      case y9 => (intro w hSw; (try dsimp only at hSw); go_simp; try (with_reducible rfl))
      try simp only [Act.put, List.setIfInBounds_toArray, List.set_cons_zero, List.set_cons_succ]
      refine wpAnyH_ready (rs := [9]) (by kernel_rfl) (by simp) ?_
      refine AllReadyH.cons (by simp only [List.getElem?_toArray, List.getElem?_cons_succ, List.getElem?_cons_zero]; exact rfl) (fun K hK => ?_) AllReadyH.nil
      go_simp
      refine (hed _ hqd).mono ?_
      rintro e wn ⟨rfl, hbn⟩
      have hqn := hqd.trans (hbn.mono hqd.size)
      have d0 := (hbn.cell (cell_lt d0)).trans d0
      have d1 := (hbn.cell (cell_lt d1)).trans d1
      have d2 := (hbn.cell (cell_lt d2)).trans d2
      have hRn := (hRd.below hbn (Nat.le_refl _)).weaken (Nat.le_refl _) (show _ ≤ wn.heap.size by have := hbn.size; omega)
      have houn := houd.below hbn (Nat.le_refl _)
      have hrn := hrd.below hbn (Nat.le_refl _)
      try dsimp only
      refine hK.out _ _ ?h11 (fun hHeld => ?_)
      case h11 => first | exact ⟨‹_›, ‹_›, ‹_›⟩ | (simp [*, go_sem])
      clear hK K
      try simp only [Act.put, List.setIfInBounds_toArray, List.set_cons_zero, List.set_cons_succ]
      refine wpAnyH_done (by kernel_rfl) ?_ _
      clear hHeld hqd hRd houd hrd hR hou hr hq c3 hciw hckw d1 d2 hszd hbn
      cases bb with
      | false =>
        have HLX := Lib.hid (hL.out.no HEK.out)
        go_wp2
        go_roundw
        case rel => exact ⟨k + 1, _, _, by omega, by go_num, hRn, HLX, houn, hrn, hqn, d0⟩
        case measure => simp [intOf]; omega
      | true =>
        have HLX := Lib.hid (hL.out.yes hkl hlt HEK.out)
        have hpre := hL.out.pre hkl hlt
        have hMlt := hL.out.lt (.inl hlt)
        have hM16 : ∀ m ∈ M, m < 65536 := fun m hm => by
          have h1 := hMlt m hm
          have h2 := pow_le16 h16
          omega
        obtain ⟨o1, o2, -, -⟩ := own_cell houn
        have hlk := l1Link_any hRn (Nat.le_refl _) (cell_lt d0) (k := k) (i := i) (by have := HML.out; omega) (by have := HML.out; omega) (by omega) hM16 (by have := HML.out; omega) hpre.1 hpre.2
        obtain ⟨ua, uc, rfl⟩ := hRn.isSlice
        rw [List.length_map] at *
        have hnob := hRn.other houn (by decide)
        have hnrb := hRn.other hrn (by decide)
        have hlo := (houn.lt _ rfl).2
        have hlr := (hrn.lt _ rfl).2
        clear hpre hMlt hM16
        go_wp2_with fail
        refine hlk.mono ?_
        rintro e wm ⟨rfl, hRm, hbm, hfr⟩
        have houm := own1_keep houn (hfr _ hlo hnob)
        have hrm := own1_keep hrn (hfr _ hlr hnrb)
        have hqm := hqn.trans (hbm.mono (by omega))
        have dm := (hbm.cell (p := ⟨w.heap.size, 0, none⟩) (by show w.heap.size < _; omega)).trans d0
        obtain ⟨x1, x2, -, -⟩ := own_cell houm
        clear hlk hRn houn hrn
        go_wp2
        go_roundw
        case rel => exact ⟨k + 1, _, _, by omega, by go_num, (hRm.setOther houm (by decide) (by decide) _).weaken (Nat.le_refl _) (by simp), HLX, own_set houm _, own1_keep hrm (Below.heap_setCell _ _ _ _ (by (simp; omega))), hqm.setCell (by simp; omega) _, (World.cell?_of_block (a := ⟨w.heap.size, 0, none⟩) (Below.heap_setCell _ _ _ _ (by simp; omega))).trans dm⟩
        case measure => simp [intOf]; omega
end Go.Proofs.Ytplohdnakllbiaa
