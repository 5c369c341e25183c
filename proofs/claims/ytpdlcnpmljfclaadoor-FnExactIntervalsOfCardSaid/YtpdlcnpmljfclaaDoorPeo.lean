/- Orders of elimination, by the program. -/
import Derived.Test.YtpdlcnpmljfclaaDoorPeoM
import Derived.Test.YtpdlcnpmljfclaaDoorPop
import Derived.Test.YtpdlcnpmljfclaaDoorDist3
import Derived.Test.YtpdlcnpmljfclaaDoorFit2
import Derived.Test.YtpdlcnpmljfclaaDoorSmall
namespace Go.Proofs.YtpdlcnpmljfclaaDoor
open Go.RowKit
set_option maxRecDepth 100000 in
set_option maxHeartbeats 4000000 in
theorem missing_any {S : Nat → Prop} {av : Value} {H : List Nat} {s : Nat} {w : World} (ht : Tab w) (hv : SlI S w .u32 av (natsI H)) (h16 : H.length ≤ 16) (hH : ∀ m ∈ H, m < 2 ^ H.length) (hs : s < 2 ^ H.length) :
    Calls Tryd.prog 112 #[av, .int .u32 (s : Int)] w fun e w' => e = .returned (.int .i64 (missN H s : Int)) ∧ Below w.heap.size w w' := by
  have hs16 := pow16_lt h16
  have hs32 := Nat.lt_trans hs hs16
  have hp65 : (2 : Nat) ^ H.length ≤ 65536 := pow_le16 h16
  have hli := list_any s w ht hs32
  have hbl := bitsI_lenN s
  have HSN := Lib.hid (fun y (hy : y ∈ bitsN s) => bit_lt_of hs ((mem_bitsN hs32).1 hy))
  have HM := Lib.hid (show missN H s = missTo H s ((bitsN s).take (bitsN s).length) / 2 by rw [List.take_length]; rfl)
  have hb32 := bitsN_len s
  obtain ⟨nb, no, ncap, hne, hnc⟩ := hv.at_
  have hv0 := hv
  obtain ⟨na, nc, rfl⟩ := hv.slice
  rw [natsI_len] at hne ⊢
  have HNC := Lib.hid hnc
  have HHL := Lib.hid (fun x => getD_ltN hH x)
  clear hnc hH hv0 hv
  go_enter Tryd.func112, Tryd.ntmps112
  go_wp2_with fail
  refine hli.mono ?_
  rintro e w1 ⟨lv, rfl, hlv, hb1⟩
  have hli2 := Own.ints (xs := bitsI s) hlv (by have := bitsI_len s; omega)
  obtain ⟨la, lc, rfl⟩ := hlv.isSlice
  obtain ⟨lb, lo, lcap, hle, hlc⟩ := hli2.at_
  rw [hbl] at hle ⊢
  have HLC := Lib.hid hlc
  have HBL := Lib.hid hbl
  clear hli hlv hli2 hlc hbl
  have HS := Lib.hid hs32
  generalize hR : bitsN s = R at *
  have HR := Lib.hid hR.symm
  clear hR
  go_wp2
  go_loopw [5, 11] (fun mv iv wr => ∃ k : Nat, k ≤ R.length ∧ iv = .int .i64 k ∧ mv = .int .i64 (missTo H s (R.take k) : Int) ∧ Drawn w1 wr) (fun _ iv _ => R.length - (intOf iv).toNat)
  case atStart => exact ⟨0, Nat.zero_le _, rfl, by simp [missTo], Drawn.refl _⟩
  case round =>
    obtain ⟨k, hk, rfl, rfl, hd⟩ := hrel
    have hml := missTo_le (H := H) (s := s) (R.take k)
    rw [List.length_take] at hml
    by_cases hlt : k < R.length
    case neg =>
      obtain rfl : k = R.length := by omega
      have HM2 := Lib.hid HM.out.symm
      generalize missTo H s (R.take R.length) = m at *
      have hdv : Int.tdiv (m : Int) 2 = ((m / 2 : Nat) : Int) := by rw [Int.tdiv_eq_ediv_of_nonneg (by omega)]; omega
      go_wp2
      go_ret
      exact ⟨ret_int (by rw [← HM2.out]; omega), hb1.trans ((hd.below _).mono hb1.size)⟩
    have hst := missTo_take (H := H) (s := s) hlt
    have hyn := HSN.out _ (List.getElem_mem hlt)
    have hy32 : R[k] < 32 := by omega
    have d1 : wr.cell? ⟨lb, lo + k, none⟩ = some (.int .i64 (R[k] : Int)) := by
      have h1 := HLC.out k (by rw [HBL.out]; exact hlt)
      rw [bitsI_get] at h1
      rw [hd.cell, h1]
      simp only [HR.out]
    have d2 : wr.cell? ⟨nb, no + R[k], none⟩ = some (.int .u32 ((H.getD R[k] 0 : Nat) : Int)) := by
      have h1 := HNC.out R[k] (by rw [natsI_len]; exact hyn)
      rw [natsI_get] at h1
      rw [hd.cell, hb1.cell (cell_lt h1), h1]
      simp [hyn]
    have hle2 := hle (by omega)
    simp only [Value.slice.injEq] at hle2
    obtain ⟨rfl, -, rfl⟩ := hle2
    have hne2 := hne (by omega)
    simp only [Value.slice.injEq] at hne2
    obtain ⟨rfl, -, rfl⟩ := hne2
    have hHy := HHL.out R[k]
    have hHy32 := Nat.lt_trans hHy hs16
    have ha1 : bits BinOp.andNot IntKind.u32 (s : Int) ((H.getD R[k] 0 : Nat) : Int) = (andN s (H.getD R[k] 0) : Int) := u32_andNot_nat _ _ hs32 hHy32
    have hal := Nat.lt_of_le_of_lt (andN_le s (H.getD R[k] 0)) hs32
    have ha2 : bits BinOp.andNot IntKind.u32 (andN s (H.getD R[k] 0) : Int) (bit R[k] : Int) = (andN (andN s (H.getD R[k] 0)) (bit R[k]) : Int) := u32_andNot_nat _ _ hal (bit_lt hy32)
    have hl2 : andN (andN s (H.getD R[k] 0)) (bit R[k]) < 65536 := Nat.lt_of_le_of_lt (andN_le _ _) (Nat.lt_of_le_of_lt (andN_le _ _) (by omega))
    have hpop : ((bitsI (andN (andN s (H.getD R[k] 0)) (bit R[k]))).length : Int) = (lackN H s R[k] : Int) := by rw [← popN_I]; rfl
    have hlk : lackN H s R[k] ≤ 32 := popN_32 _
    have hsz := fun W : World => size_any (andN (andN s (H.getD R[k] 0)) (bit R[k])) W hl2
    rw [hpop] at hsz
    have HST := Lib.hid hst
    clear hst hpop hl2 hal hHy hHy32 hle hne
    generalize R[k] = y at *
    generalize andN (andN s (H.getD y 0)) (bit y) = m2 at *
    generalize andN s (H.getD y 0) = m1 at *
    generalize H.getD y 0 = my at *
    generalize lackN H s y = ly at *
    generalize missTo H s (R.take k) = m at *
    have hon := fun W : World => one_any (y : Int) W (by omega) (by omega)
    rw [Int.toNat_natCast] at hon
    generalize bit y = by_ at *
    have hws : IntKind.i64.wrap ((m : Int) + (ly : Int)) = (m : Int) + (ly : Int) := IntWalk.i64_in _ (by omega)
    go_wp2
    refine wp_region_held_drew (S := (fun w' => w'.cell? ⟨nb, no + y, none⟩ = some (.int .u32 (my : Int)))) (by kernel_rfl) ?_ (fun hHeld => ?_)
    · first | exact ‹_› | (simp [*, go_sem])
    have hdc := hd.drew
    generalize wr.drew = wd at hdc hHeld ⊢
    refine wpAnyH_take (i := 0) (v := ?v1) (by simp only [List.getElem?_toArray, List.getElem?_cons_zero]; exact rfl) (by kernel_rfl) (by kernel_rfl) (by kernel_rfl) (by intro _ _ _ h; exact h) (Or.inl ⟨by rfl, ?y1⟩) hHeld ?_
    case y1 => (intro w hSw; (try dsimp only at hSw); go_simp; try (with_reducible rfl))
    try simp only [Act.put, List.setIfInBounds_toArray, List.set_cons_zero, List.set_cons_succ]
    refine wpAnyH_take (i := 1) (v := ?v2) (by simp only [List.getElem?_toArray, List.getElem?_cons_succ, List.getElem?_cons_zero]; exact rfl) (by kernel_rfl) (by kernel_rfl) (by kernel_rfl) (by intro _ _ _ h; exact h) (Or.inl ⟨by rfl, ?y2⟩) hHeld ?_
    case y2 => (intro w hSw; (try dsimp only at hSw); go_simp; try (with_reducible rfl))
    try simp only [Act.put, List.setIfInBounds_toArray, List.set_cons_zero, List.set_cons_succ]
    refine wpAnyH_take (i := 2) (v := ?v3) (by simp only [List.getElem?_toArray, List.getElem?_cons_succ, List.getElem?_cons_zero]; exact rfl) (by kernel_rfl) (by kernel_rfl) (by kernel_rfl) (by intro _ _ _ h; exact h) (Or.inl ⟨by rfl, ?y3⟩) hHeld ?_
    case y3 => (intro w hSw; (try dsimp only at hSw); go_simp; try (with_reducible rfl))
    try simp only [Act.put, List.setIfInBounds_toArray, List.set_cons_zero, List.set_cons_succ]
    refine wpAnyH_take (i := 3) (v := ?v4) (by simp only [List.getElem?_toArray, List.getElem?_cons_succ, List.getElem?_cons_zero]; exact rfl) (by kernel_rfl) (by kernel_rfl) (by kernel_rfl) (by intro _ _ _ h; exact h) (Or.inl ⟨by rfl, ?y4⟩) hHeld ?_
    case y4 => (intro w hSw; (try dsimp only at hSw); go_simp; try (with_reducible rfl))
    try simp only [Act.put, List.setIfInBounds_toArray, List.set_cons_zero, List.set_cons_succ]
    refine wpAnyH_take (i := 4) (v := ?v5) (by simp only [List.getElem?_toArray, List.getElem?_cons_succ, List.getElem?_cons_zero]; exact rfl) (by kernel_rfl) (by kernel_rfl) (by kernel_rfl) (by intro _ _ _ h; exact h) (Or.inl ⟨by rfl, ?y5⟩) hHeld ?_
    case y5 => (intro w hSw; (try dsimp only at hSw); go_simp; try (with_reducible rfl))
    try simp only [Act.put, List.setIfInBounds_toArray, List.set_cons_zero, List.set_cons_succ]
    refine wpAnyH_take (i := 5) (v := ?v6) (by simp only [List.getElem?_toArray, List.getElem?_cons_succ, List.getElem?_cons_zero]; exact rfl) (by kernel_rfl) (by kernel_rfl) (by kernel_rfl) (by intro _ _ _ h; exact h) (Or.inl ⟨by rfl, ?y6⟩) hHeld ?_
    case y6 => (intro w hSw; (try dsimp only at hSw); go_simp; try (with_reducible rfl))
    try simp only [Act.put, List.setIfInBounds_toArray, List.set_cons_zero, List.set_cons_succ]
    refine wpAnyH_take (i := 6) (v := ?v7) (by simp only [List.getElem?_toArray, List.getElem?_cons_succ, List.getElem?_cons_zero]; exact rfl) (by kernel_rfl) (by kernel_rfl) (by kernel_rfl) (by intro _ _ _ h; exact h) (Or.inl ⟨by rfl, ?y7⟩) hHeld ?_
    case y7 => (intro w hSw; (try dsimp only at hSw); go_simp; try (with_reducible rfl))
    try simp only [Act.put, List.setIfInBounds_toArray, List.set_cons_zero, List.set_cons_succ]
    refine wpAnyH_take (i := 7) (v := ?v8) (by simp only [List.getElem?_toArray, List.getElem?_cons_succ, List.getElem?_cons_zero]; exact rfl) (by kernel_rfl) (by kernel_rfl) (by kernel_rfl) (by intro _ _ _ h; exact h) (Or.inl ⟨by rfl, ?y8⟩) hHeld ?_
    case y8 => (intro w hSw; (try dsimp only at hSw); go_simp; try (with_reducible rfl))
    try simp only [Act.put, List.setIfInBounds_toArray, List.set_cons_zero, List.set_cons_succ]
    refine wpAnyH_ready (rs := [8]) (by kernel_rfl) (by simp) ?_
    refine AllReadyH.cons (by simp only [List.getElem?_toArray, List.getElem?_cons_succ, List.getElem?_cons_zero]; exact rfl) (fun K hK => ?_) AllReadyH.nil
    go_simp
    (with_reducible refine (hon _).mono ?_)
    rintro e wn ⟨rfl, rfl⟩
    try dsimp only
    refine hK.out _ _ ?h10 (fun hHeld => ?_)
    case h10 => first | exact ‹_› | (simp [*, go_sem])
    clear hK K
    try simp only [Act.put, List.setIfInBounds_toArray, List.set_cons_zero, List.set_cons_succ]
    refine wpAnyH_take (i := 9) (v := ?v11) (by simp only [List.getElem?_toArray, List.getElem?_cons_succ, List.getElem?_cons_zero]; exact rfl) (by kernel_rfl) (by kernel_rfl) (by kernel_rfl) (by intro _ _ _ h; exact h) (Or.inl ⟨by rfl, ?y11⟩) hHeld ?_
    case y11 => (intro w hSw; (try dsimp only at hSw); go_simp; try (with_reducible rfl))
    try simp only [Act.put, List.setIfInBounds_toArray, List.set_cons_zero, List.set_cons_succ]
    refine wpAnyH_ready (rs := [10]) (by kernel_rfl) (by simp) ?_
    refine AllReadyH.cons (by simp only [List.getElem?_toArray, List.getElem?_cons_succ, List.getElem?_cons_zero]; exact rfl) (fun K hK => ?_) AllReadyH.nil
    go_simp
    (with_reducible refine (hsz _).mono ?_)
    rintro e wn ⟨rfl, hdn⟩
    have hdc := hdc.trans hdn
    have d3 := (hdn.cell ⟨nb, no + y, none⟩).trans hHeld
    try dsimp only
    refine hK.out _ _ ?h13 (fun hHeld => ?_)
    case h13 => first | exact ‹_› | (simp [*, go_sem])
    clear hK K
    try simp only [Act.put, List.setIfInBounds_toArray, List.set_cons_zero, List.set_cons_succ]
    refine wpAnyH_take (i := 11) (v := ?v14) (by simp only [List.getElem?_toArray, List.getElem?_cons_succ, List.getElem?_cons_zero]; exact rfl) (by kernel_rfl) (by kernel_rfl) (by kernel_rfl) (by intro _ _ _ h; exact h) (Or.inl ⟨by rfl, ?y14⟩) hHeld ?_
    case y14 => (intro w hSw; (try dsimp only at hSw); go_simp; try (with_reducible rfl))
    try simp only [Act.put, List.setIfInBounds_toArray, List.set_cons_zero, List.set_cons_succ]
    refine wpAnyH_take (i := 12) (v := ?v15) (by simp only [List.getElem?_toArray, List.getElem?_cons_succ, List.getElem?_cons_zero]; exact rfl) (by kernel_rfl) (by kernel_rfl) (by kernel_rfl) (by intro _ _ _ h; exact h) (Or.inl ⟨by rfl, ?y15⟩) hHeld ?_
    case y15 => (intro w hSw; (try dsimp only at hSw); go_simp; try (with_reducible rfl))
    try simp only [Act.put, List.setIfInBounds_toArray, List.set_cons_zero, List.set_cons_succ]
    refine wpAnyH_done (by kernel_rfl) ?_ _
    go_wp2
    go_roundw
    case rel => exact ⟨k + 1, by omega, by go_num, by rw [HST.out]; go_num, hdc⟩
    case measure => simp [intOf]; omega
/-- What is known of the order so far. -/
structure PeoI (H : List Nat) (left : Nat) (out : List Nat) : Prop where
  lt : left < 2 ^ H.length
  len : out.length + popN left = H.length
  rest : peoF H (popN left) left out = peo H
theorem pop_first {n : Nat} (hn : n ≤ 32) : popN (firstN n) = n := by
  have hf : firstN n < 4294967296 := by unfold firstN; have := Nat.two_pow_pos n; have := Nat.pow_le_pow_right (n := 2) (by omega) hn; omega
  unfold popN
  have : bitsN (firstN n) = List.range n := by
    refine List.Perm.eq_of_pairwise (le := (· < ·)) (fun a b _ _ h1 h2 => by omega) (bitsN_sorted _) List.pairwise_lt_range ?_
    refine (List.perm_ext_iff_of_nodup ((bitsN_sorted _).imp (fun h => by omega)) List.nodup_range).2 fun x => ?_
    rw [mem_bitsN hf, testBit_firstN, decide_eq_true_eq, List.mem_range]
  rw [this, List.length_range]
theorem PeoI.start {H : List Nat} (h16 : H.length ≤ 16) : PeoI H (firstN H.length) [] :=
  ⟨by unfold firstN; have := Nat.two_pow_pos H.length; omega, by rw [pop_first (by omega)]; simp, by rw [pop_first (by omega)]; rfl⟩
theorem PeoI.none_ {H : List Nat} {left : Nat} {out : List Nat} (h : PeoI H left out) (h0 : left ≠ 0) (hl : left < 4294967296) (hn : ∀ v ∈ bitsN left, simpB H left v = false) : peo H = none := by
  rw [← h.rest]
  have : popN left ≠ 0 := fun e => h0 ((popN_zero hl).1 e)
  obtain ⟨k, hk⟩ : ∃ k, popN left = k + 1 := ⟨popN left - 1, by omega⟩
  rw [hk, peoF_none h0 hn]
theorem PeoI.next {H : List Nat} {left j : Nat} {out : List Nat} (h : PeoI H left out) (hl : left < 4294967296) (hj : j < (bitsN left).length) (hs : simpB H left (bitsN left)[j] = true) (hb : ∀ i (hi : i < j), simpB H left ((bitsN left)[i]'(by omega)) = false) :
    PeoI H (andN left (bit (bitsN left)[j])) (out ++ [(bitsN left)[j]]) := by
  have hv := (mem_bitsN hl).1 (List.getElem_mem hj)
  have hd := pop_drop hl hv
  have h0 : left ≠ 0 := by
    intro e
    have h2 := hv
    generalize (bitsN left)[j] = z at h2
    rw [e, Nat.zero_testBit] at h2; cases h2
  refine ⟨Nat.lt_of_le_of_lt (andN_le _ _) h.lt, by have := h.len; rw [List.length_append, List.length_singleton]; omega, ?_⟩
  rw [← h.rest, ← hd, peoF_some h0 hj hs hb]
theorem PeoI.done {H : List Nat} {out : List Nat} (h : PeoI H 0 out) : peo H = some out ∧ out.length = H.length := by
  have h1 := h.rest
  have h2 := h.len
  rw [(popN_zero (by omega)).2 rfl] at h1 h2
  exact ⟨by rw [← h1]; rfl, by omega⟩
set_option maxRecDepth 100000 in
set_option maxHeartbeats 8000000 in
theorem perfectOrder_any {S : Nat → Prop} {av : Value} {H : List Nat} {w : World} (ht : Tab w) (hv : SlI S w .u32 av (natsI H)) (h1 : 1 ≤ H.length) (h16 : H.length ≤ 16) (hH : ∀ m ∈ H, m < 2 ^ H.length) :
    Calls Tryd.prog 86 #[av] w fun e w' => ∃ u, e = .returned u ∧ ((peo H = none ∧ u = .slice none 0 0) ∨ (∃ r, peo H = some r ∧ r.length = H.length ∧ ∃ a c, u = .slice (some a) r.length c ∧ Own w' w.heap.size 3 1 u r.length ((natsI r).map (.int .i64)))) ∧ Below w.heap.size w w' := by
  have hs16 := pow16_lt h16
  have hp65 : (2 : Nat) ^ H.length ≤ 65536 := pow_le16 h16
  obtain ⟨nb, no, ncap, hne, hnc⟩ := hv.at_
  have hv0 := hv
  obtain ⟨na, nc, rfl⟩ := hv.slice
  rw [natsI_len] at hne hv0 ⊢
  have hne := hne (by omega)
  simp only [Value.slice.injEq] at hne
  obtain ⟨rfl, -, rfl⟩ := hne
  have HNC := Lib.hid hnc
  have HHL := Lib.hid (fun x => getD_ltN hH x)
  have HH := Lib.hid hH
  have HI0 := Lib.hid (PeoI.start h16)
  have hmi := fun (W : World) (hb : Below w.heap.size w W) (s : Nat) (hs : s < 2 ^ H.length) => missing_any (ht.below hb (Nat.le_refl _)) (hv0.below hb (Nat.le_refl _)) h16 HH.out hs
  have ho0 : Own (w.alloc (.cells #[] 3)) w.heap.size 3 1 (.slice (some ⟨w.heap.size, 0, none⟩) 0 0) 0 [] := World.ownsRow_lit (base := w.heap.size) (e := 3) (size := 1) w #[] 0 (Nat.le_refl _) (by unfold maxLen; omega) rfl
  have hq0 : Below w.heap.size w (w.alloc (.cells #[] 3)) := (Below.refl _ _).alloc (Nat.le_refl _) _
  clear hnc hH
  go_enter Tryd.func86, Tryd.ntmps86
  go_wp2_with fail
  refine (allOf_any _ _ _ _ (by omega)).mono ?_
  rintro e w1 ⟨rfl, rfl⟩
  go_wp2_with fail
  go_loopw [3, 4] (fun ov lv wr => ∃ (left : Nat) (out : List Nat), lv = .int .u32 (left : Int) ∧ RowKit.Hid (PeoI H left out) ∧ Own wr w.heap.size 3 1 ov out.length ((natsI out).map (.int .i64)) ∧ Below w.heap.size w wr) (fun _ lv _ => popN (intOf lv).toNat)
  case atStart => exact ⟨firstN H.length, [], rfl, HI0, by simpa [natsI] using ho0, hq0⟩
  case round =>
    clear HI0 ho0 hq0
    obtain ⟨left, out, rfl, HI, ho, hq⟩ := hrel
    obtain ⟨wi, rfl⟩ : ∃ wi : World, wi = wr := ⟨_, rfl⟩
    have hlt := HI.out.lt
    have hlen := HI.out.len
    have hl32 := Nat.lt_trans hlt hs16
    have hos := hq.size
    by_cases h0 : left = 0
    · subst h0
      obtain ⟨hp, hol⟩ := HI.out.done
      have HP := Lib.hid hp
      have HOL := Lib.hid hol
      obtain ⟨oa, oc, rfl⟩ := own_some ho (by omega)
      clear hp hol hlen
      go_wp2
      go_ret
      exact ⟨_, rfl, .inr ⟨out, HP.out, HOL.out, _, _, rfl, ho⟩, hq⟩
    have hb0 : ((left : Int) != 0) = true := by rw [bne_iff_ne]; omega
    have hb02 : (left != 0) = true := by rw [bne_iff_ne]; exact h0
    obtain ⟨oa, oc, rfl⟩ := ho.isSlice
    have hli := list_any left wi (ht.below hq (Nat.le_refl _)) hl32
    have hbl := bitsI_lenN left
    have HSN := Lib.hid (fun y (hy : y ∈ bitsN left) => bit_lt_of hlt ((mem_bitsN hl32).1 hy))
    have hb32 := bitsN_len left
    have HNO := Lib.hid (HI.out.none_ h0 hl32)
    have HNX := Lib.hid (fun j hj hs hb => HI.out.next (j := j) hl32 hj hs hb)
    have HPD := Lib.hid (fun y (hy : y ∈ bitsN left) => pop_drop hl32 ((mem_bitsN hl32).1 hy))
    have hpo : popN left = (bitsN left).length := rfl
    go_wp2_with fail
    refine hli.mono ?_
    rintro e w1 ⟨lv, rfl, hlv, hb1⟩
    have hli2 := Own.ints (xs := bitsI left) hlv (by have := bitsI_len left; omega)
    have hq1 := hq.trans (hb1.mono hq.size)
    have ho1 := ho.below hb1 (Nat.le_refl _)
    have hqs := hq1.size
    obtain ⟨la, lc, rfl⟩ := hlv.isSlice
    obtain ⟨lb, lo, lcap, hle, hlc⟩ := hli2.at_
    rw [hbl] at hle ⊢
    have hle := hle (by
      have h1 : popN left ≠ 0 := fun e => h0 ((popN_zero hl32).1 e)
      omega)
    simp only [Value.slice.injEq] at hle
    obtain ⟨rfl, -, rfl⟩ := hle
    have HLC := Lib.hid hlc
    have HBL := Lib.hid hbl
    obtain ⟨R, hR⟩ : ∃ R, R = bitsN left := ⟨_, rfl⟩
    have HR := Lib.hid hR
    have HJ0 : RowKit.Hid (∀ i (h : i < R.length), i < 0 → simpB H left R[i] = false) := Lib.hid (fun i _ h => by omega)
    have HS := Lib.hid hl32
    have H0 := Lib.hid h0
    clear hli hlv hli2 hlc h0 hq ho hb1
    rw [← hR] at hb32 HSN HNO HPD hbl hpo ⊢
    have hnx2 : ∀ j (hj : j < R.length), simpB H left R[j] = true → (∀ i (hi : i < j), simpB H left (R[i]'(by omega)) = false) → PeoI H (andN left (bit R[j])) (out ++ [R[j]]) := by
      subst hR; exact fun j hj hs hb => HNX.out j hj hs hb
    have HNX := Lib.hid hnx2
    clear hR hnx2 hpo
    go_wp2
    go_loopw [5, 16] (fun fv iv wr => ∃ j : Nat, j ≤ R.length ∧ iv = .int .i64 j ∧ fv = .int .i64 (-1) ∧ RowKit.Hid (∀ i (h : i < R.length), i < j → simpB H left R[i] = false) ∧ Below w1.heap.size w1 wr) (fun _ iv _ => R.length - (intOf iv).toNat)
    case atStart => exact ⟨0, Nat.zero_le _, rfl, rfl, HJ0, Below.refl _ _⟩
    case round =>
      clear HJ0
      obtain ⟨j, hj, rfl, rfl, HJ, hbj⟩ := hrel
      by_cases hjl : j < R.length
      case neg =>
        obtain rfl : j = R.length := by omega
        have HP := Lib.hid (HNO.out (fun v hv => by
          obtain ⟨i, hi, rfl⟩ := List.getElem_of_mem hv
          exact HJ.out i hi hi))
        go_wp2
        go_ret
        exact ⟨_, rfl, .inl ⟨HP.out, rfl⟩, hq1.trans (hbj.mono hqs)⟩
      have hyn := HSN.out _ (List.getElem_mem hjl)
      have hpd := HPD.out _ (List.getElem_mem hjl)
      have d1 : wr.cell? ⟨lb, lo + j, none⟩ = some (.int .i64 (R[j] : Int)) := by
        have h1 := HLC.out j (by rw [HBL.out, ← HR.out]; exact hjl)
        rw [bitsI_get] at h1
        rw [hbj.cell (cell_lt h1), h1]
        simp only [HR.out]
      have d2 : wr.cell? ⟨nb, no + R[j], none⟩ = some (.int .u32 ((H.getD R[j] 0 : Nat) : Int)) := by
        have h1 := HNC.out R[j] (by rw [natsI_len]; exact hyn)
        rw [natsI_get] at h1
        rw [(hq1.trans (hbj.mono hqs)).cell (cell_lt h1), h1]
        simp [hyn]
      have hHy := HHL.out R[j]
      have hHy32 := Nat.lt_trans hHy hs16
      have ha1 : bits BinOp.and IntKind.u32 ((H.getD R[j] 0 : Nat) : Int) (left : Int) = ((H.getD R[j] 0 &&& left : Nat) : Int) := u32_and_nat _ _ hHy32 hl32
      have hmm := hmi _ (hq1.trans (hbj.mono hqs)) (H.getD R[j] 0 &&& left) (Nat.lt_of_le_of_lt Nat.and_le_left hHy)
      have hsi : simpB H left R[j] = decide (missN H (H.getD R[j] 0 &&& left) = 0) := rfl
      have HNJ := Lib.hid (HNX.out j hjl)
      have HJN := Lib.hid (fun (h : simpB H left R[j] = false) => (show ∀ i (h : i < R.length), i < j + 1 → simpB H left R[i] = false from fun i hi hij => by
        by_cases e : i = j
        · subst e; exact h
        · exact HJ.out i hi (by omega)))
      have HJB := Lib.hid (fun i (hi : i < j) => HJ.out i (by omega) hi)
      have hr65 : R[j] < 32 := by omega
      generalize R[j] = y at *
      generalize missN H (H.getD y 0 &&& left) = ms at *
      generalize H.getD y 0 &&& left = my at *
      generalize H.getD y 0 = hy at *
      clear hHy hHy32
      go_wp2_with fail
      refine hmm.mono ?_
      rintro e w5 ⟨rfl, hb5⟩
      have hb6 := hbj.trans (hb5.mono hbj.size)
      clear hmm hbj hb5
      by_cases hms : ms = 0
      · have hsy : simpB H left y = true := by rw [hsi, hms]; rfl
        have HIN := Lib.hid (HNJ.out hsy (fun i hi => HJB.out i hi))
        have ho6 := ho1.below hb6 (Nat.le_refl _)
        have hq6 := hq1.trans (hb6.mono hqs)
        have hq6s := hq6.size
        have hol := HI.out.len
        have han : bits BinOp.andNot IntKind.u32 (left : Int) (bit y : Int) = (andN left (bit y) : Int) := u32_andNot_nat _ _ HS.out (bit_lt hr65)
        have hb1 : ((ms : Int) == 0) = true := by rw [beq_iff_eq]; omega
        have hb2 : (ms == 0) = true := by rw [beq_iff_eq]; omega
        have hy0 : decide ((y : Int) < 0) = false := decide_eq_false (by omega)
        subst hms
        clear hsi hsy HNJ HJN HJB HJ HNO
        go_wp2_with (first | (go_at_call 104; refine (one_any _ _ (by omega) (by omega)).mono ?_; rintro e w' ⟨rfl, rfl⟩) | (at_builtin; refine wpList_append1 elInt rfl _ _ rfl ho6 rfl rfl rfl (by omega) hq6s ?_; intro v' w8 hown8 hkept hmv))
        have hq8 := hkept.below hq6 hq6s (fun k hk => by have := ho6.ge k hk; omega)
        go_roundw
        case rel => exact ⟨andN left (bit y), out ++ [y], rfl, HIN, by rw [natsI_append, List.map_append, List.length_append]; exact hown8, hq8⟩
        case measure => simp [intOf]; omega
      · have hsy : simpB H left y = false := by rw [hsi]; exact decide_eq_false hms
        have HJ2 := Lib.hid (HJN.out hsy)
        have hb1 : ((ms : Int) == 0) = false := by rw [beq_eq_false_iff_ne]; omega
        have hb2 : (ms == 0) = false := by rw [beq_eq_false_iff_ne]; omega
        clear hsi hsy HNJ HJN HJB HJ hms
        go_wp2
        go_roundw
        case rel => exact ⟨j + 1, by omega, by go_num, rfl, HJ2, hb6⟩
        case measure => simp [intOf]; omega
end Go.Proofs.YtpdlcnpmljfclaaDoor
