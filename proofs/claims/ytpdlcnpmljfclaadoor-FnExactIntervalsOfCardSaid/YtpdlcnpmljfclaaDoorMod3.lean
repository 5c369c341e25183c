/- ModuleIn and SplitterOf of the program. -/
import Derived.Test.YtpdlcnpmljfclaaDoorBits
import Derived.Test.YtpdlcnpmljfclaaDoorGok
import Derived.StillTailTactics
namespace Go.Proofs.YtpdlcnpmljfclaaDoor
open Go.RowKit

noncomputable def setOkB (g : List (List Int)) (s : List Int) : Bool := gokB g && riseB s g.length
def rangeI (n : Nat) : List Int := (List.range n).map fun i : Nat => (i : Int)
theorem rangeI_succ (n : Nat) : rangeI (n + 1) = rangeI n ++ [(n : Int)] := by simp [rangeI, List.range_succ]
theorem rangeI_len (n : Nat) : (rangeI n).length = n := by simp [rangeI]
theorem rangeI_get {n i : Nat} (h : i < (rangeI n).length) : (rangeI n)[i] = (i : Int) := by simp [rangeI]
theorem mem_rangeI {n : Nat} {v : Int} : v ∈ rangeI n ↔ 0 ≤ v ∧ v < n := by
  simp only [rangeI, List.mem_map, List.mem_range]
  constructor
  · rintro ⟨i, hi, rfl⟩; omega
  · rintro ⟨h0, h1⟩; exact ⟨v.toNat, by omega, by omega⟩
/-- How many of a set are in a row. -/
def cntIn (set row : List Int) : Nat := (set.filter (fun x => decide (x ∈ row))).length
theorem cntIn_le (set row : List Int) : cntIn set row ≤ set.length := List.length_filter_le _ _
theorem cntIn_take {set row : List Int} {k : Nat} (hk : k < set.length) : cntIn (set.take (k + 1)) row = cntIn (set.take k) row + if set[k] ∈ row then 1 else 0 := by
  unfold cntIn
  rw [List.take_succ_eq_append_getElem hk, List.filter_append, List.length_append]
  by_cases h : set[k] ∈ row <;> simp [h]
def splitsB (g : List (List Int)) (set : List Int) (v : Int) : Bool := decide (0 < cntIn set (g.getD v.toNat [])) && decide (cntIn set (g.getD v.toNat []) < set.length)
def splitAtB (g : List (List Int)) (set : List Int) (v : Int) : Bool := !decide (v ∈ set) && splitsB g set v
def splitterI (g : List (List Int)) (inside set : List Int) : Int := match inside.find? (splitAtB g set) with | some v => v | none => -1
theorem splitter_hit {g : List (List Int)} {inside set : List Int} {k : Nat} (hk : k < inside.length) (h : ∀ v ∈ inside.take k, splitAtB g set v = false) (hb : splitAtB g set inside[k] = true) : splitterI g inside set = inside[k] := by
  have : inside.find? (splitAtB g set) = some inside[k] := by
    have e : inside = inside.take k ++ inside[k] :: inside.drop (k + 1) := by rw [← List.drop_eq_getElem_cons hk, List.take_append_drop]
    have h2 : (inside.take k ++ inside[k] :: inside.drop (k + 1)).find? (splitAtB g set) = some inside[k] := by
      rw [List.find?_append, List.find?_eq_none.2 (fun v hv => by simp [h v hv]), List.find?_cons, hb]
      rfl
    rw [← e] at h2; exact h2
  rw [splitterI, this]
theorem splitter_none {g : List (List Int)} {inside set : List Int} {k : Nat} (hk : inside.length ≤ k) (h : ∀ v ∈ inside.take k, splitAtB g set v = false) : splitterI g inside set = -1 := by
  rw [List.take_of_length_le hk] at h
  rw [splitterI, List.find?_eq_none.2 (fun v hv => by simp [h v hv])]
theorem take_step {α : Type} {P : α → Prop} {xs : List α} {k : Nat} (hk : k < xs.length) (h : ∀ v ∈ xs.take k, P v) (h1 : P xs[k]) : ∀ v ∈ xs.take (k + 1), P v := by
  intro v hv
  rw [List.take_succ_eq_append_getElem hk] at hv
  simp only [List.mem_append, List.mem_singleton] at hv
  rcases hv with hv | rfl
  · exact h v hv
  · exact h1

theorem specSetOk_any {S S' : Nat → Prop} (v u : Value) (g : List (List Int)) (s : List Int) (w : World) (hv : SlR S w v g) (hu : SlI S' w .i64 u s) :
    Calls Tryd.prog 65 #[.agg #[v], u] w fun e w' => e = .returned (.bool (setOkB g s)) ∧ Below w.heap.size w w' := by
  have hb : Below w.heap.size w (w.alloc (.cells #[v] 29)) := (Below.refl _ _).alloc (Nat.le_refl _) _
  obtain ⟨va, vc, rfl⟩ := hv.slice
  by_cases hg : GOk g
  · have hg1 := gokB_true hg
    have hlo := hg.lo
    have hhi := hg.hi
    go_enter Tryd.func65, Tryd.ntmps65
    go_wp2_with fail
    refine (specGraphOk_any _ _ _ (hv.below hb (Nat.le_refl _))).mono ?_
    rintro e w' ⟨rfl, hb2⟩
    have c1 : w'.cell? ⟨w.heap.size, 0, none⟩ = some (.slice va g.length vc) := (hb2.cell (p := ⟨w.heap.size, 0, none⟩) (by simp)).trans (by simp [go_sem])
    have hb3 : Below w.heap.size w (w'.alloc (.cells #[.slice va g.length vc] 29)) := (hb.trans (hb2.mono hb.size)).alloc (Nat.le_trans hb.size hb2.size) _
    have hs : (riseB s g.length) = setOkB g s := by simp [setOkB, hg1]
    have HS := Lib.hid hs; clear hs
    go_wp2_with (first | (go_at_call 80; refine (l1Set_any _ _ _ _ (hu.below hb3 (Nat.le_refl _)) (by omega) (by omega)).mono ?_; rintro e w' ⟨rfl, m, rfl⟩) | go_in)
    go_ret
    exact ⟨ret_bool HS.out, hb3.drewN' _⟩
  · have hg1 := gokB_false hg
    go_enter Tryd.func65, Tryd.ntmps65
    go_wp2_with (go_at_call 43; refine (specGraphOk_any _ _ _ (hv.below hb (Nat.le_refl _))).mono ?_; rintro e w' ⟨rfl, hb2⟩)
    go_ret
    exact ⟨ret_bool (by simp [setOkB, hg1]), hb.trans (hb2.mono hb.size)⟩
set_option maxHeartbeats 1000000 in
theorem l16All_any {S : Nat → Prop} (v : Value) (g : List (List Int)) (w : World) (hv : SlR S w v g) (hn : g.length ≤ 1048576) :
    Calls Tryd.prog 67 #[.agg #[v]] w fun e w' => ∃ u, e = .returned u ∧ Own w' w.heap.size 2 1 u g.length ((rangeI g.length).map (.int .i64)) ∧ Below w.heap.size w w' := by
  obtain ⟨va, vc, rfl⟩ := hv.slice
  go_enter Tryd.func67, Tryd.ntmps67
  go_wp2
  go_loopw [3, 4] (fun o i wr => ∃ k : Nat, k ≤ g.length ∧ i = .int .i64 k ∧ Own wr w.heap.size 2 1 o k ((rangeI k).map (.int .i64)) ∧ Below w.heap.size w wr ∧ wr.cell? ⟨w.heap.size, 0, none⟩ = some (.slice va g.length vc) ∧ (∀ b, o.ownBlock = some b → w.heap.size < b)) (fun _ i _ => g.length - (intOf i).toNat)
  case atStart =>
    refine ⟨0, Nat.zero_le _, rfl, ?_, ((Below.refl _ _).alloc (Nat.le_refl _) _).alloc (by simp) _, by simp [go_sem], by simp [Value.ownBlock]⟩
    have := World.ownsRow_lit (base := w.heap.size) (e := 2) (size := 1) (w.alloc (.cells #[.slice va g.length vc] 29)) #[] 0 (by simp) (by unfold maxLen; omega) rfl
    simpa [Own, rangeI] using this
  case round =>
    obtain ⟨k, hk, rfl, hown, hq, hbx, hne⟩ := hrel
    have hB := hq.size
    by_cases hlt : k < g.length
    · go_wp2_with (at_builtin; refine wpList_append1 elI64 rfl _ _ rfl hown rfl rfl rfl (by omega) hB ?_; intro v' w1 hown1 hkept hmv)
      go_roundw
      case rel =>
        have hne' : ∀ b, v'.ownBlock = some b → w.heap.size < b := fun b hb => by
          rcases hmv with h | h
          · exact hne b (h ▸ hb)
          · rw [h] at hb; simp at hb; have := cell_lt hbx; simp at this; omega
        refine ⟨k + 1, by omega, by go_num, ?_, hkept.below hq hB hown.ge, ?_, hne'⟩
        · rw [rangeI_succ]; simpa using hown1
        · rw [cell_heap (hkept.2.2.2.2 _ (cell_lt hbx) (fun e => by have := hne _ e.symm; simp at this))]; exact hbx
      case measure => simp [intOf]; omega
    · go_wp2
      go_ret
      obtain rfl : k = g.length := by omega
      exact ⟨_, rfl, hown, hq⟩
set_option maxHeartbeats 1000000 in
theorem l17Splits_any {S S' : Nat → Prop} (v u : Value) (g : List (List Int)) (set : List Int) (x : Int) (w : World) (hv : SlR S w v g) (hu : SlI S' w .i64 u set) (h0 : 0 ≤ x) (h1 : x < g.length) :
    Calls Tryd.prog 95 #[.agg #[v], u, .int .i64 x] w fun e w' => e = .returned (.bool (splitsB g set x)) ∧ Below w.heap.size w w' := by
  obtain ⟨a, b, off, cap, f, rfl, hl, ha, hc0⟩ := hv
  obtain ⟨a', b', off', cap', rfl, hl', ha', hc0'⟩ := hu
  obtain ⟨n, rfl⟩ := Int.eq_ofNat_of_zero_le h0
  have hn : n < g.length := by omega
  obtain ⟨rfl, _⟩ := ha (by omega)
  have hrowE : g.getD ((n : Int)).toNat [] = g[n] := by simp [hn]
  have HE := Lib.hid hrowE; clear hrowE
  go_enter Tryd.func95, Tryd.ntmps95
  go_wp2
  go_loopw [7, 8] (fun c i wr => ∃ k : Nat, k ≤ set.length ∧ i = .int .i64 k ∧ c = .int .i64 (cntIn (set.take k) g[n] : Int) ∧ Below w.heap.size w wr ∧ wr.cell? ⟨w.heap.size, 0, none⟩ = some (.slice (some ⟨b, off, none⟩) g.length cap)) (fun _ i _ => set.length - (intOf i).toNat)
  case atStart => exact ⟨0, Nat.zero_le _, rfl, by simp [cntIn], (Below.refl _ _).alloc (Nat.le_refl _) _, by simp [go_sem]⟩
  case round =>
    obtain ⟨k, hk, rfl, rfl, hq, hbx⟩ := hrel
    have hc := hc0.below hq (Nat.le_refl _)
    have hc' := hc0'.below hq (Nat.le_refl _)
    have hcl := cntIn_le (set.take k) g[n]
    have htl : (set.take k).length ≤ k := List.length_take_le _ _
    by_cases hlt : k < set.length
    · obtain ⟨hcell, hrow⟩ := hc n hn
      have hcell' := hc' k hlt
      obtain ⟨rfl, _⟩ := ha' (by omega)
      have hct := Lib.hid (cntIn_take (row := g[n]) hlt)
      by_cases hin : set[k] ∈ g[n]
      · have hbin : decide (set[k] ∈ g[n]) = true := by simpa using hin
        go_wp2
        go_quiet ((go_at_call 56; exact quiet_same (l1Has_any _ _ _ _ (hrow.drewN _))))
        go_wp2
        go_roundw
        case rel => exact ⟨k + 1, by omega, by go_num, by rw [hct.out, if_pos hin]; go_num, hq.drew' _, hbx⟩
        case measure => simp [intOf]; omega
      · have hbin : decide (set[k] ∈ g[n]) = false := by simpa using hin
        go_wp2
        go_quiet ((go_at_call 56; exact quiet_same (l1Has_any _ _ _ _ (hrow.drewN _))))
        go_wp2
        go_roundw
        case rel => exact ⟨k + 1, by omega, by go_num, by rw [hct.out, if_neg hin]; go_num, hq.drew' _, hbx⟩
        case measure => simp [intOf]; omega
    · have ht : set.take k = set := List.take_of_length_le (by omega)
      have HT := Lib.hid ht; clear ht
      by_cases hp : 0 < cntIn (set.take k) g[n]
      · by_cases hp2 : cntIn (set.take k) g[n] < set.length
        · go_wp2
          go_ret
          refine ⟨ret_bool ?_, hq⟩
          rw [HT.out] at hp hp2
          unfold splitsB; rw [HE.out]; simp [hp, hp2]
        · go_wp2
          go_ret
          refine ⟨ret_bool ?_, hq⟩
          rw [HT.out] at hp hp2
          have : decide (cntIn set g[n] < set.length) = false := by simpa using hp2
          unfold splitsB; rw [HE.out, this]; simp
      · go_wp2
        go_ret
        refine ⟨ret_bool ?_, hq⟩
        rw [HT.out] at hp
        have : decide (0 < cntIn set g[n]) = false := by simpa using hp
        unfold splitsB; rw [HE.out, this]; simp
set_option maxHeartbeats 1000000 in
theorem l17Splitter_any {S S' S'' : Nat → Prop} (v u t : Value) (g : List (List Int)) (inside set : List Int) (w : World) (hv : SlR S w v g) (hu : SlI S' w .i64 u inside) (hs : SlI S'' w .i64 t set) (hin : ∀ x ∈ inside, 0 ≤ x ∧ x < g.length) :
    Calls Tryd.prog 66 #[.agg #[v], u, t] w fun e w' => e = .returned (.int .i64 (splitterI g inside set)) ∧ Below w.heap.size w w' := by
  obtain ⟨va, vc, rfl⟩ := hv.slice
  obtain ⟨a, b, off, cap, rfl, hl, ha, hc0⟩ := hu
  go_enter Tryd.func66, Tryd.ntmps66
  go_wp2
  go_loopw [7] (fun i wr => ∃ k : Nat, k ≤ inside.length ∧ i = .int .i64 k ∧ (∀ v ∈ inside.take k, splitAtB g set v = false) ∧ Below w.heap.size w wr ∧ wr.cell? ⟨w.heap.size, 0, none⟩ = some (.slice va g.length vc)) (fun i _ => inside.length - (intOf i).toNat)
  case atStart => exact ⟨0, Nat.zero_le _, rfl, by simp, (Below.refl _ _).alloc (Nat.le_refl _) _, by simp [go_sem]⟩
  case round =>
    obtain ⟨k, hk, rfl, hno, hq, hbx⟩ := hrel
    have hc := hc0.below hq (Nat.le_refl _)
    have hs1 := hs.below hq (Nat.le_refl _)
    have hv1 := hv.below hq (Nat.le_refl _)
    by_cases hlt : k < inside.length
    · have hcell := hc k hlt
      obtain ⟨rfl, _⟩ := ha (by omega)
      have hik := hin inside[k] (List.getElem_mem _)
      have HNO := Lib.hid hno; clear hno
      by_cases hm : inside[k] ∈ set
      · have hmb : decide (inside[k] ∈ set) = true := by simpa using hm
        go_wp2
        go_quiet ((go_at_call 56; exact quiet_same (l1Has_any _ _ _ _ (hs1.drewN _))))
        go_wp2
        go_roundw
        case rel => exact ⟨k + 1, by omega, by go_num, take_step hlt HNO.out (by simp [splitAtB, hm]), hq.drew' _, hbx⟩
        case measure => simp [intOf]; omega
      · have hmb : decide (inside[k] ∈ set) = false := by simpa using hm
        go_wp2
        go_region_held3 (fun w' => w'.cell? ⟨b, off + k, none⟩ = some (.int .i64 inside[k]) ∧ w'.cell? ⟨w.heap.size, 0, none⟩ = some (.slice va g.length vc)) (first | assumption | (simp [*, go_sem])) (first | (go_at_call 56; refine (l1Has_any _ _ _ _ hs1.drew).mono ?_; rintro e w' ⟨rfl, rfl⟩) | (go_at_call 95; refine (l17Splits_any _ _ _ _ _ _ hv1.drew hs1.drew hik.1 hik.2).mono ?_; rintro e w' ⟨rfl, hq2⟩; have hq3 : Below w.heap.size w w' := hq.trans ((show Below wr.heap.size wr w' from ⟨hq2.os, hq2.tape, hq2.output, hq2.size, hq2.block⟩).mono hq.size); have hcell3 := hc0.below hq3 (Nat.le_refl _) k hlt; have hbx3 : w'.cell? ⟨w.heap.size, 0, none⟩ = some (.slice va g.length vc) := (hq2.cell (p := ⟨w.heap.size, 0, none⟩) (cell_lt hbx)).trans hbx))
        all_goals
          go_wp2
          · have hsp : splitsB g set inside[k] = true := by assumption
            go_ret
            exact ⟨ret_int (splitter_hit hlt HNO.out (by simp [splitAtB, hm, hsp])).symm, hq3⟩
          · have hsp : splitsB g set inside[k] = false := by assumption
            go_roundw
            case rel => exact ⟨k + 1, by omega, by go_num, take_step hlt HNO.out (by simp [splitAtB, hsp]), hq3, hbx3⟩
            case measure => simp [intOf]; omega
    · go_wp2
      go_ret
      exact ⟨ret_int (splitter_none (by omega) hno).symm, hq⟩

noncomputable def modB (g : List (List Int)) (set : List Int) : Bool := setOkB g set && decide (0 < set.length) && decide (splitterI g (rangeI g.length) set < 0)
noncomputable def splOf (g : List (List Int)) (set : List Int) : Int := if setOkB g set = true then splitterI g (rangeI g.length) set else -1

set_option maxHeartbeats 8000000 in
theorem specModuleIn_any {S S' : Nat → Prop} (v u : Value) (g : List (List Int)) (s : List Int) (w : World) (hv : SlR S w v g) (hu : SlI S' w .i64 u s) :
    Calls Tryd.prog 34 #[.agg #[v], u] w fun e w' => e = .returned (.bool (modB g s)) ∧ Below w.heap.size w w' := by
  have hb : Below w.heap.size w (w.alloc (.cells #[v] 29)).drew := ((Below.refl _ _).alloc (Nat.le_refl _) _).drew
  obtain ⟨va, vc, rfl⟩ := hv.slice
  obtain ⟨ua, uc, rfl⟩ := hu.slice
  have hv1 := hv.below hb (Nat.le_refl _)
  by_cases hg : GOk g
  · have hg1 := gokB_true hg
    have hhi := hg.hi
    by_cases hr : Rise s g.length
    · have hs1 : setOkB g s = true := by simp [setOkB, hg1, riseB_true hr]
      by_cases hl : 0 < s.length
      · have hm : decide (splitterI g (rangeI g.length) s < 0) = modB g s := by simp [modB, hs1, hl]
        have HM := Lib.hid hm; clear hm
        go_enter Tryd.func34, Tryd.ntmps34
        go_wp2
        refine wp_region_held_drew (S := (fun w' => w'.cell? ⟨w.heap.size, 0, none⟩ = some (.slice va g.length vc))) (by kernel_rfl) ?_ (fun hHeld => ?_)
        · first | assumption | (simp [go_sem])
        refine wpAnyH_take (i := 0) (v := ?v1) (by simp only [List.getElem?_toArray, List.getElem?_cons_zero]; exact rfl) (by kernel_rfl) (by kernel_rfl) (by kernel_rfl) (by intro _ _ _ h; exact h) (Or.inl ⟨by rfl, ?y1⟩) hHeld ?_
        case y1 => (intro w hSw; (try dsimp only at hSw); go_simp; try (with_reducible rfl))
        try simp only [Act.put, List.setIfInBounds_toArray, List.set_cons_zero, List.set_cons_succ]
        refine wpAnyH_ready (rs := [1]) (by kernel_rfl) (by simp) ?_
        refine AllReadyH.cons (by simp only [List.getElem?_toArray, List.getElem?_cons_succ, List.getElem?_cons_zero]; exact rfl) (fun K hK => ?_) AllReadyH.nil
        go_simp
        refine (specGraphOk_any _ _ _ hv1).mono ?_
        rintro e w1 ⟨rfl, hb1⟩
        have hq1 := hb.trans (hb1.mono hb.size)
        have hv2 := hv.below hq1 (Nat.le_refl _)
        have hu2 := hu.below hq1 (Nat.le_refl _)
        have c1 : w1.cell? ⟨w.heap.size, 0, none⟩ = some (.slice va g.length vc) := (hb1.cell (p := ⟨w.heap.size, 0, none⟩) (by simp [go_sem])).trans (by simp [go_sem])
        try dsimp only
        refine hK.out _ _ ?h3 (fun hHeld => ?_)
        case h3 => first | assumption | (simp [go_sem])
        clear hK K
        try simp only [Act.put, List.setIfInBounds_toArray, List.set_cons_zero, List.set_cons_succ]
        refine wpAnyH_take (i := 2) (v := ?v4) (by simp only [List.getElem?_toArray, List.getElem?_cons_succ, List.getElem?_cons_zero]; exact rfl) (by kernel_rfl) (by kernel_rfl) (by kernel_rfl) (by intro _ _ _ h; exact h) (Or.inl ⟨by rfl, ?y4⟩) hHeld ?_
        case y4 => (intro w hSw; (try dsimp only at hSw); go_simp; try (with_reducible rfl))
        try simp only [Act.put, List.setIfInBounds_toArray, List.set_cons_zero, List.set_cons_succ]
        refine wpAnyH_take (i := 3) (v := ?v5) (by simp only [List.getElem?_toArray, List.getElem?_cons_succ, List.getElem?_cons_zero]; exact rfl) (by kernel_rfl) (by kernel_rfl) (by kernel_rfl) (by intro _ _ _ h; exact h) (Or.inl ⟨by rfl, ?y5⟩) hHeld ?_
        case y5 => (intro w hSw; (try dsimp only at hSw); go_simp; try (with_reducible rfl))
        try simp only [Act.put, List.setIfInBounds_toArray, List.set_cons_zero, List.set_cons_succ]
        refine wpAnyH_take (i := 4) (v := ?v6) (by simp only [List.getElem?_toArray, List.getElem?_cons_succ, List.getElem?_cons_zero]; exact rfl) (by kernel_rfl) (by kernel_rfl) (by kernel_rfl) (by intro _ _ _ h; exact h) (Or.inl ⟨by rfl, ?y6⟩) hHeld ?_
        case y6 => (intro w hSw; (try dsimp only at hSw); go_simp; try (with_reducible rfl))
        try simp only [Act.put, List.setIfInBounds_toArray, List.set_cons_zero, List.set_cons_succ]
        refine wpAnyH_ready (rs := [5]) (by kernel_rfl) (by simp) ?_
        refine AllReadyH.cons (by simp only [List.getElem?_toArray, List.getElem?_cons_succ, List.getElem?_cons_zero]; exact rfl) (fun K hK => ?_) AllReadyH.nil
        go_simp
        refine (specSetOk_any _ _ _ _ _ hv2 hu2).mono ?_
        rintro e w2 ⟨rfl, hb2⟩
        have hq2 := hq1.trans (hb2.mono hq1.size)
        have hv3 := hv.below hq2 (Nat.le_refl _)
        have c2 := (hb2.cell (p := ⟨w.heap.size, 0, none⟩) (cell_lt c1)).trans c1
        try dsimp only
        refine hK.out _ _ ?h8 (fun hHeld => ?_)
        case h8 => first | assumption | (simp [go_sem])
        clear hK K
        try simp only [Act.put, List.setIfInBounds_toArray, List.set_cons_zero, List.set_cons_succ]
        refine wpAnyH_take (i := 6) (v := ?v9) (by simp only [List.getElem?_toArray, List.getElem?_cons_succ, List.getElem?_cons_zero]; exact rfl) (by kernel_rfl) (by kernel_rfl) (by kernel_rfl) (by intro _ _ _ h; exact h) (Or.inl ⟨by rfl, ?y9⟩) hHeld ?_
        case y9 => (intro w hSw; (try dsimp only at hSw); go_simp; try (with_reducible rfl))
        try simp only [Act.put, List.setIfInBounds_toArray, List.set_cons_zero, List.set_cons_succ]
        refine wpAnyH_take (i := 7) (v := ?v10) (by simp only [List.getElem?_toArray, List.getElem?_cons_succ, List.getElem?_cons_zero]; exact rfl) (by kernel_rfl) (by kernel_rfl) (by kernel_rfl) (by intro _ _ _ h; exact h) (Or.inl ⟨by rfl, ?y10⟩) hHeld ?_
        case y10 => (intro w hSw; (try dsimp only at hSw); go_simp; try (with_reducible rfl))
        try simp only [Act.put, List.setIfInBounds_toArray, List.set_cons_zero, List.set_cons_succ]
        refine wpAnyH_take (i := 8) (v := ?v11) (by simp only [List.getElem?_toArray, List.getElem?_cons_succ, List.getElem?_cons_zero]; exact rfl) (by kernel_rfl) (by kernel_rfl) (by kernel_rfl) (by intro _ _ _ h; exact h) (Or.inl ⟨by rfl, ?y11⟩) hHeld ?_
        case y11 => (intro w hSw; (try dsimp only at hSw); go_simp; try (with_reducible rfl))
        try simp only [Act.put, List.setIfInBounds_toArray, List.set_cons_zero, List.set_cons_succ]
        refine wpAnyH_take (i := 9) (v := ?v12) (by simp only [List.getElem?_toArray, List.getElem?_cons_succ, List.getElem?_cons_zero]; exact rfl) (by kernel_rfl) (by kernel_rfl) (by kernel_rfl) (by intro _ _ _ h; exact h) (Or.inl ⟨by rfl, ?y12⟩) hHeld ?_
        case y12 => (intro w hSw; (try dsimp only at hSw); go_simp; try (with_reducible rfl))
        try simp only [Act.put, List.setIfInBounds_toArray, List.set_cons_zero, List.set_cons_succ]
        refine wpAnyH_take (i := 10) (v := ?v13) (by simp only [List.getElem?_toArray, List.getElem?_cons_succ, List.getElem?_cons_zero]; exact rfl) (by kernel_rfl) (by kernel_rfl) (by kernel_rfl) (by intro _ _ _ h; exact h) (Or.inl ⟨by rfl, ?y13⟩) hHeld ?_
        case y13 => (intro w hSw; (try dsimp only at hSw); go_simp; try (with_reducible rfl))
        try simp only [Act.put, List.setIfInBounds_toArray, List.set_cons_zero, List.set_cons_succ]
        refine wpAnyH_take (i := 11) (v := ?v14) (by simp only [List.getElem?_toArray, List.getElem?_cons_succ, List.getElem?_cons_zero]; exact rfl) (by kernel_rfl) (by kernel_rfl) (by kernel_rfl) (by intro _ _ _ h; exact h) (Or.inl ⟨by rfl, ?y14⟩) hHeld ?_
        case y14 => (intro w hSw; (try dsimp only at hSw); go_simp; try (with_reducible rfl))
        try simp only [Act.put, List.setIfInBounds_toArray, List.set_cons_zero, List.set_cons_succ]
        refine wpAnyH_take (i := 12) (v := ?v15) (by simp only [List.getElem?_toArray, List.getElem?_cons_succ, List.getElem?_cons_zero]; exact rfl) (by kernel_rfl) (by kernel_rfl) (by kernel_rfl) (by intro _ _ _ h; exact h) (Or.inl ⟨by rfl, ?y15⟩) hHeld ?_
        case y15 => (intro w hSw; (try dsimp only at hSw); go_simp; try (with_reducible rfl))
        try simp only [Act.put, List.setIfInBounds_toArray, List.set_cons_zero, List.set_cons_succ]
        refine wpAnyH_take (i := 13) (v := ?v16) (by simp only [List.getElem?_toArray, List.getElem?_cons_succ, List.getElem?_cons_zero]; exact rfl) (by kernel_rfl) (by kernel_rfl) (by kernel_rfl) (by intro _ _ _ h; exact h) (Or.inl ⟨by rfl, ?y16⟩) hHeld ?_
        case y16 => (intro w hSw; (try dsimp only at hSw); go_simp; try (with_reducible rfl))
        try simp only [Act.put, List.setIfInBounds_toArray, List.set_cons_zero, List.set_cons_succ]
        refine wpAnyH_take (i := 14) (v := ?v17) (by simp only [List.getElem?_toArray, List.getElem?_cons_succ, List.getElem?_cons_zero]; exact rfl) (by kernel_rfl) (by kernel_rfl) (by kernel_rfl) (by intro _ _ _ h; exact h) (Or.inl ⟨by rfl, ?y17⟩) hHeld ?_
        case y17 => (intro w hSw; (try dsimp only at hSw); go_simp; try (with_reducible rfl))
        try simp only [Act.put, List.setIfInBounds_toArray, List.set_cons_zero, List.set_cons_succ]
        refine wpAnyH_take (i := 16) (v := ?v18) (by simp only [List.getElem?_toArray, List.getElem?_cons_succ, List.getElem?_cons_zero]; exact rfl) (by kernel_rfl) (by kernel_rfl) (by kernel_rfl) (by intro _ _ _ h; exact h) (Or.inl ⟨by rfl, ?y18⟩) hHeld ?_
        case y18 => (intro w hSw; (try dsimp only at hSw); go_simp; try (with_reducible rfl))
        try simp only [Act.put, List.setIfInBounds_toArray, List.set_cons_zero, List.set_cons_succ]
        refine wpAnyH_ready (rs := [15]) (by kernel_rfl) (by simp) ?_
        refine AllReadyH.cons (by simp only [List.getElem?_toArray, List.getElem?_cons_succ, List.getElem?_cons_zero]; exact rfl) (fun K hK => ?_) AllReadyH.nil
        go_simp
        refine (l16All_any _ _ _ hv3 (by omega)).mono ?_
        rintro e w3 ⟨x, rfl, hx, hb3⟩
        have hq3 := hq2.trans (hb3.mono hq2.size)
        have hv4 := hv.below hq3 (Nat.le_refl _)
        have hu4 := hu.below hq3 (Nat.le_refl _)
        have hx2 := Own.ints (xs := rangeI g.length) hx (by omega)
        have c3 := (hb3.cell (p := ⟨w.heap.size, 0, none⟩) (cell_lt c2)).trans c2
        try dsimp only
        refine hK.out _ _ ?h20 (fun hHeld => ?_)
        case h20 => first | assumption | (simp [go_sem])
        clear hK K
        try simp only [Act.put, List.setIfInBounds_toArray, List.set_cons_zero, List.set_cons_succ]
        refine wpAnyH_ready (rs := [17]) (by kernel_rfl) (by simp) ?_
        refine AllReadyH.cons (by simp only [List.getElem?_toArray, List.getElem?_cons_succ, List.getElem?_cons_zero]; exact rfl) (fun K hK => ?_) AllReadyH.nil
        go_simp
        refine (l17Splitter_any _ _ _ _ _ _ _ hv4 hx2 hu4 (fun x hx => mem_rangeI.1 hx)).mono ?_
        rintro e w4 ⟨rfl, hb4⟩
        have hq4 := hq3.trans (hb4.mono hq3.size)
        have c4 := (hb4.cell (p := ⟨w.heap.size, 0, none⟩) (cell_lt c3)).trans c3
        try dsimp only
        refine hK.out _ _ ?h22 (fun hHeld => ?_)
        case h22 => first | assumption | (simp [go_sem])
        clear hK K
        try simp only [Act.put, List.setIfInBounds_toArray, List.set_cons_zero, List.set_cons_succ]
        refine wpAnyH_take (i := 18) (v := ?v23) (by simp only [List.getElem?_toArray, List.getElem?_cons_succ, List.getElem?_cons_zero]; exact rfl) (by kernel_rfl) (by kernel_rfl) (by kernel_rfl) (by intro _ _ _ h; exact h) (Or.inl ⟨by rfl, ?y23⟩) hHeld ?_
        case y23 => (intro w hSw; (try dsimp only at hSw); go_simp; try (with_reducible rfl))
        try simp only [Act.put, List.setIfInBounds_toArray, List.set_cons_zero, List.set_cons_succ]
        refine wpAnyH_take (i := 19) (v := ?v24) (by simp only [List.getElem?_toArray, List.getElem?_cons_succ, List.getElem?_cons_zero]; exact rfl) (by kernel_rfl) (by kernel_rfl) (by kernel_rfl) (by intro _ _ _ h; exact h) (Or.inl ⟨by rfl, ?y24⟩) hHeld ?_
        case y24 => (intro w hSw; (try dsimp only at hSw); go_simp; try (with_reducible rfl))
        try simp only [Act.put, List.setIfInBounds_toArray, List.set_cons_zero, List.set_cons_succ]
        refine wpAnyH_take (i := 20) (v := ?v25) (by simp only [List.getElem?_toArray, List.getElem?_cons_succ, List.getElem?_cons_zero]; exact rfl) (by kernel_rfl) (by kernel_rfl) (by kernel_rfl) (by intro _ _ _ h; exact h) (Or.inl ⟨by rfl, ?y25⟩) hHeld ?_
        case y25 => (intro w hSw; (try dsimp only at hSw); go_simp; try (with_reducible rfl))
        try simp only [Act.put, List.setIfInBounds_toArray, List.set_cons_zero, List.set_cons_succ]
        refine wpAnyH_done (by kernel_rfl) ?_ _
        go_wp2
        go_ret
        exact ⟨ret_bool HM.out, hq4⟩
      · have hlb : decide (0 < s.length) = false := decide_eq_false (by omega)
        have HL := Lib.hid hl; clear hl
        go_enter Tryd.func34, Tryd.ntmps34
        go_wp2
        refine wp_region_held_drew (S := (fun w' => w'.cell? ⟨w.heap.size, 0, none⟩ = some (.slice va g.length vc))) (by kernel_rfl) ?_ (fun hHeld => ?_)
        · first | assumption | (simp [go_sem])
        refine wpAnyH_take (i := 0) (v := ?v26) (by simp only [List.getElem?_toArray, List.getElem?_cons_zero]; exact rfl) (by kernel_rfl) (by kernel_rfl) (by kernel_rfl) (by intro _ _ _ h; exact h) (Or.inl ⟨by rfl, ?y26⟩) hHeld ?_
        case y26 => (intro w hSw; (try dsimp only at hSw); go_simp; try (with_reducible rfl))
        try simp only [Act.put, List.setIfInBounds_toArray, List.set_cons_zero, List.set_cons_succ]
        refine wpAnyH_ready (rs := [1]) (by kernel_rfl) (by simp) ?_
        refine AllReadyH.cons (by simp only [List.getElem?_toArray, List.getElem?_cons_succ, List.getElem?_cons_zero]; exact rfl) (fun K hK => ?_) AllReadyH.nil
        go_simp
        refine (specGraphOk_any _ _ _ hv1).mono ?_
        rintro e w1 ⟨rfl, hb1⟩
        have hq1 := hb.trans (hb1.mono hb.size)
        have hv2 := hv.below hq1 (Nat.le_refl _)
        have hu2 := hu.below hq1 (Nat.le_refl _)
        have c1 : w1.cell? ⟨w.heap.size, 0, none⟩ = some (.slice va g.length vc) := (hb1.cell (p := ⟨w.heap.size, 0, none⟩) (by simp [go_sem])).trans (by simp [go_sem])
        try dsimp only
        refine hK.out _ _ ?h28 (fun hHeld => ?_)
        case h28 => first | assumption | (simp [go_sem])
        clear hK K
        try simp only [Act.put, List.setIfInBounds_toArray, List.set_cons_zero, List.set_cons_succ]
        refine wpAnyH_take (i := 2) (v := ?v29) (by simp only [List.getElem?_toArray, List.getElem?_cons_succ, List.getElem?_cons_zero]; exact rfl) (by kernel_rfl) (by kernel_rfl) (by kernel_rfl) (by intro _ _ _ h; exact h) (Or.inl ⟨by rfl, ?y29⟩) hHeld ?_
        case y29 => (intro w hSw; (try dsimp only at hSw); go_simp; try (with_reducible rfl))
        try simp only [Act.put, List.setIfInBounds_toArray, List.set_cons_zero, List.set_cons_succ]
        refine wpAnyH_take (i := 3) (v := ?v30) (by simp only [List.getElem?_toArray, List.getElem?_cons_succ, List.getElem?_cons_zero]; exact rfl) (by kernel_rfl) (by kernel_rfl) (by kernel_rfl) (by intro _ _ _ h; exact h) (Or.inl ⟨by rfl, ?y30⟩) hHeld ?_
        case y30 => (intro w hSw; (try dsimp only at hSw); go_simp; try (with_reducible rfl))
        try simp only [Act.put, List.setIfInBounds_toArray, List.set_cons_zero, List.set_cons_succ]
        refine wpAnyH_take (i := 4) (v := ?v31) (by simp only [List.getElem?_toArray, List.getElem?_cons_succ, List.getElem?_cons_zero]; exact rfl) (by kernel_rfl) (by kernel_rfl) (by kernel_rfl) (by intro _ _ _ h; exact h) (Or.inl ⟨by rfl, ?y31⟩) hHeld ?_
        case y31 => (intro w hSw; (try dsimp only at hSw); go_simp; try (with_reducible rfl))
        try simp only [Act.put, List.setIfInBounds_toArray, List.set_cons_zero, List.set_cons_succ]
        refine wpAnyH_ready (rs := [5]) (by kernel_rfl) (by simp) ?_
        refine AllReadyH.cons (by simp only [List.getElem?_toArray, List.getElem?_cons_succ, List.getElem?_cons_zero]; exact rfl) (fun K hK => ?_) AllReadyH.nil
        go_simp
        refine (specSetOk_any _ _ _ _ _ hv2 hu2).mono ?_
        rintro e w2 ⟨rfl, hb2⟩
        have hq2 := hq1.trans (hb2.mono hq1.size)
        have hv3 := hv.below hq2 (Nat.le_refl _)
        have c2 := (hb2.cell (p := ⟨w.heap.size, 0, none⟩) (cell_lt c1)).trans c1
        try dsimp only
        refine hK.out _ _ ?h33 (fun hHeld => ?_)
        case h33 => first | assumption | (simp [go_sem])
        clear hK K
        try simp only [Act.put, List.setIfInBounds_toArray, List.set_cons_zero, List.set_cons_succ]
        refine wpAnyH_take (i := 6) (v := ?v34) (by simp only [List.getElem?_toArray, List.getElem?_cons_succ, List.getElem?_cons_zero]; exact rfl) (by kernel_rfl) (by kernel_rfl) (by kernel_rfl) (by intro _ _ _ h; exact h) (Or.inl ⟨by rfl, ?y34⟩) hHeld ?_
        case y34 => (intro w hSw; (try dsimp only at hSw); go_simp; try (with_reducible rfl))
        try simp only [Act.put, List.setIfInBounds_toArray, List.set_cons_zero, List.set_cons_succ]
        refine wpAnyH_take (i := 7) (v := ?v35) (by simp only [List.getElem?_toArray, List.getElem?_cons_succ, List.getElem?_cons_zero]; exact rfl) (by kernel_rfl) (by kernel_rfl) (by kernel_rfl) (by intro _ _ _ h; exact h) (Or.inl ⟨by rfl, ?y35⟩) hHeld ?_
        case y35 => (intro w hSw; (try dsimp only at hSw); go_simp; try (with_reducible rfl))
        try simp only [Act.put, List.setIfInBounds_toArray, List.set_cons_zero, List.set_cons_succ]
        refine wpAnyH_take (i := 8) (v := ?v36) (by simp only [List.getElem?_toArray, List.getElem?_cons_succ, List.getElem?_cons_zero]; exact rfl) (by kernel_rfl) (by kernel_rfl) (by kernel_rfl) (by intro _ _ _ h; exact h) (Or.inl ⟨by rfl, ?y36⟩) hHeld ?_
        case y36 => (intro w hSw; (try dsimp only at hSw); go_simp; try (with_reducible rfl))
        try simp only [Act.put, List.setIfInBounds_toArray, List.set_cons_zero, List.set_cons_succ]
        refine wpAnyH_take (i := 9) (v := ?v37) (by simp only [List.getElem?_toArray, List.getElem?_cons_succ, List.getElem?_cons_zero]; exact rfl) (by kernel_rfl) (by kernel_rfl) (by kernel_rfl) (by intro _ _ _ h; exact h) (Or.inl ⟨by rfl, ?y37⟩) hHeld ?_
        case y37 => (intro w hSw; (try dsimp only at hSw); go_simp; try (with_reducible rfl))
        try simp only [Act.put, List.setIfInBounds_toArray, List.set_cons_zero, List.set_cons_succ]
        refine wpAnyH_take (i := 10) (v := ?v38) (by simp only [List.getElem?_toArray, List.getElem?_cons_succ, List.getElem?_cons_zero]; exact rfl) (by kernel_rfl) (by kernel_rfl) (by kernel_rfl) (by intro _ _ _ h; exact h) (Or.inl ⟨by rfl, ?y38⟩) hHeld ?_
        case y38 => (intro w hSw; (try dsimp only at hSw); go_simp; try (with_reducible rfl))
        try simp only [Act.put, List.setIfInBounds_toArray, List.set_cons_zero, List.set_cons_succ]
        refine wpAnyH_take (i := 11) (v := ?v39) (by simp only [List.getElem?_toArray, List.getElem?_cons_succ, List.getElem?_cons_zero]; exact rfl) (by kernel_rfl) (by kernel_rfl) (by kernel_rfl) (by intro _ _ _ h; exact h) (Or.inl ⟨by rfl, ?y39⟩) hHeld ?_
        case y39 => (intro w hSw; (try dsimp only at hSw); go_simp; try (with_reducible rfl))
        try simp only [Act.put, List.setIfInBounds_toArray, List.set_cons_zero, List.set_cons_succ]
        refine wpAnyH_take (i := 12) (v := ?v40) (by simp only [List.getElem?_toArray, List.getElem?_cons_succ, List.getElem?_cons_zero]; exact rfl) (by kernel_rfl) (by kernel_rfl) (by kernel_rfl) (by intro _ _ _ h; exact h) (Or.inl ⟨by rfl, ?y40⟩) hHeld ?_
        case y40 => (intro w hSw; (try dsimp only at hSw); go_simp; try (with_reducible rfl))
        try simp only [Act.put, List.setIfInBounds_toArray, List.set_cons_zero, List.set_cons_succ]
        refine wpAnyH_take (i := 13) (by simp only [List.getElem?_toArray, List.getElem?_cons_succ, List.getElem?_cons_zero]; exact rfl) (by kernel_rfl) (by kernel_rfl) (by kernel_rfl) (by intro _ _ _ h; exact h) (Or.inr ⟨by rfl, rfl⟩) hHeld ?_
        try simp only [Act.put, List.setIfInBounds_toArray, List.set_cons_zero, List.set_cons_succ]
        refine wpAnyH_take (i := 14) (by simp only [List.getElem?_toArray, List.getElem?_cons_succ, List.getElem?_cons_zero]; exact rfl) (by kernel_rfl) (by kernel_rfl) (by kernel_rfl) (by intro _ _ _ h; exact h) (Or.inr ⟨by rfl, rfl⟩) hHeld ?_
        try simp only [Act.put, List.setIfInBounds_toArray, List.set_cons_zero, List.set_cons_succ]
        refine wpAnyH_take (i := 15) (by simp only [List.getElem?_toArray, List.getElem?_cons_succ, List.getElem?_cons_zero]; exact rfl) (by kernel_rfl) (by kernel_rfl) (by kernel_rfl) (by intro _ _ _ h; exact h) (Or.inr ⟨by rfl, rfl⟩) hHeld ?_
        try simp only [Act.put, List.setIfInBounds_toArray, List.set_cons_zero, List.set_cons_succ]
        refine wpAnyH_take (i := 16) (by simp only [List.getElem?_toArray, List.getElem?_cons_succ, List.getElem?_cons_zero]; exact rfl) (by kernel_rfl) (by kernel_rfl) (by kernel_rfl) (by intro _ _ _ h; exact h) (Or.inr ⟨by rfl, rfl⟩) hHeld ?_
        try simp only [Act.put, List.setIfInBounds_toArray, List.set_cons_zero, List.set_cons_succ]
        refine wpAnyH_take (i := 17) (by simp only [List.getElem?_toArray, List.getElem?_cons_succ, List.getElem?_cons_zero]; exact rfl) (by kernel_rfl) (by kernel_rfl) (by kernel_rfl) (by intro _ _ _ h; exact h) (Or.inr ⟨by rfl, rfl⟩) hHeld ?_
        try simp only [Act.put, List.setIfInBounds_toArray, List.set_cons_zero, List.set_cons_succ]
        refine wpAnyH_take (i := 18) (by simp only [List.getElem?_toArray, List.getElem?_cons_succ, List.getElem?_cons_zero]; exact rfl) (by kernel_rfl) (by kernel_rfl) (by kernel_rfl) (by intro _ _ _ h; exact h) (Or.inr ⟨by rfl, rfl⟩) hHeld ?_
        try simp only [Act.put, List.setIfInBounds_toArray, List.set_cons_zero, List.set_cons_succ]
        refine wpAnyH_take (i := 19) (v := ?v47) (by simp only [List.getElem?_toArray, List.getElem?_cons_succ, List.getElem?_cons_zero]; exact rfl) (by kernel_rfl) (by kernel_rfl) (by kernel_rfl) (by intro _ _ _ h; exact h) (Or.inl ⟨by rfl, ?y47⟩) hHeld ?_
        case y47 => (intro w hSw; (try dsimp only at hSw); go_simp; try (with_reducible rfl))
        try simp only [Act.put, List.setIfInBounds_toArray, List.set_cons_zero, List.set_cons_succ]
        refine wpAnyH_take (i := 20) (v := ?v48) (by simp only [List.getElem?_toArray, List.getElem?_cons_succ, List.getElem?_cons_zero]; exact rfl) (by kernel_rfl) (by kernel_rfl) (by kernel_rfl) (by intro _ _ _ h; exact h) (Or.inl ⟨by rfl, ?y48⟩) hHeld ?_
        case y48 => (intro w hSw; (try dsimp only at hSw); go_simp; try (with_reducible rfl))
        try simp only [Act.put, List.setIfInBounds_toArray, List.set_cons_zero, List.set_cons_succ]
        refine wpAnyH_done (by kernel_rfl) ?_ _
        go_wp2
        go_ret
        exact ⟨ret_bool (by have : decide (0 < s.length) = false := by simpa using HL.out
                            simp [modB, this]), hq2⟩
    · have hs1 : setOkB g s = false := by simp [setOkB, riseB_false hr]
      go_enter Tryd.func34, Tryd.ntmps34
      go_wp2
      refine wp_region_held_drew (S := (fun w' => w'.cell? ⟨w.heap.size, 0, none⟩ = some (.slice va g.length vc))) (by kernel_rfl) ?_ (fun hHeld => ?_)
      · first | assumption | (simp [go_sem])
      refine wpAnyH_take (i := 0) (v := ?v49) (by simp only [List.getElem?_toArray, List.getElem?_cons_zero]; exact rfl) (by kernel_rfl) (by kernel_rfl) (by kernel_rfl) (by intro _ _ _ h; exact h) (Or.inl ⟨by rfl, ?y49⟩) hHeld ?_
      case y49 => (intro w hSw; (try dsimp only at hSw); go_simp; try (with_reducible rfl))
      try simp only [Act.put, List.setIfInBounds_toArray, List.set_cons_zero, List.set_cons_succ]
      refine wpAnyH_ready (rs := [1]) (by kernel_rfl) (by simp) ?_
      refine AllReadyH.cons (by simp only [List.getElem?_toArray, List.getElem?_cons_succ, List.getElem?_cons_zero]; exact rfl) (fun K hK => ?_) AllReadyH.nil
      go_simp
      refine (specGraphOk_any _ _ _ hv1).mono ?_
      rintro e w1 ⟨rfl, hb1⟩
      have hq1 := hb.trans (hb1.mono hb.size)
      have hv2 := hv.below hq1 (Nat.le_refl _)
      have hu2 := hu.below hq1 (Nat.le_refl _)
      have c1 : w1.cell? ⟨w.heap.size, 0, none⟩ = some (.slice va g.length vc) := (hb1.cell (p := ⟨w.heap.size, 0, none⟩) (by simp [go_sem])).trans (by simp [go_sem])
      try dsimp only
      refine hK.out _ _ ?h51 (fun hHeld => ?_)
      case h51 => first | assumption | (simp [go_sem])
      clear hK K
      try simp only [Act.put, List.setIfInBounds_toArray, List.set_cons_zero, List.set_cons_succ]
      refine wpAnyH_take (i := 2) (v := ?v52) (by simp only [List.getElem?_toArray, List.getElem?_cons_succ, List.getElem?_cons_zero]; exact rfl) (by kernel_rfl) (by kernel_rfl) (by kernel_rfl) (by intro _ _ _ h; exact h) (Or.inl ⟨by rfl, ?y52⟩) hHeld ?_
      case y52 => (intro w hSw; (try dsimp only at hSw); go_simp; try (with_reducible rfl))
      try simp only [Act.put, List.setIfInBounds_toArray, List.set_cons_zero, List.set_cons_succ]
      refine wpAnyH_take (i := 3) (v := ?v53) (by simp only [List.getElem?_toArray, List.getElem?_cons_succ, List.getElem?_cons_zero]; exact rfl) (by kernel_rfl) (by kernel_rfl) (by kernel_rfl) (by intro _ _ _ h; exact h) (Or.inl ⟨by rfl, ?y53⟩) hHeld ?_
      case y53 => (intro w hSw; (try dsimp only at hSw); go_simp; try (with_reducible rfl))
      try simp only [Act.put, List.setIfInBounds_toArray, List.set_cons_zero, List.set_cons_succ]
      refine wpAnyH_take (i := 4) (v := ?v54) (by simp only [List.getElem?_toArray, List.getElem?_cons_succ, List.getElem?_cons_zero]; exact rfl) (by kernel_rfl) (by kernel_rfl) (by kernel_rfl) (by intro _ _ _ h; exact h) (Or.inl ⟨by rfl, ?y54⟩) hHeld ?_
      case y54 => (intro w hSw; (try dsimp only at hSw); go_simp; try (with_reducible rfl))
      try simp only [Act.put, List.setIfInBounds_toArray, List.set_cons_zero, List.set_cons_succ]
      refine wpAnyH_ready (rs := [5]) (by kernel_rfl) (by simp) ?_
      refine AllReadyH.cons (by simp only [List.getElem?_toArray, List.getElem?_cons_succ, List.getElem?_cons_zero]; exact rfl) (fun K hK => ?_) AllReadyH.nil
      go_simp
      refine (specSetOk_any _ _ _ _ _ hv2 hu2).mono ?_
      rintro e w2 ⟨rfl, hb2⟩
      have hq2 := hq1.trans (hb2.mono hq1.size)
      have hv3 := hv.below hq2 (Nat.le_refl _)
      have c2 := (hb2.cell (p := ⟨w.heap.size, 0, none⟩) (cell_lt c1)).trans c1
      try dsimp only
      refine hK.out _ _ ?h56 (fun hHeld => ?_)
      case h56 => first | assumption | (simp [go_sem])
      clear hK K
      try simp only [Act.put, List.setIfInBounds_toArray, List.set_cons_zero, List.set_cons_succ]
      refine wpAnyH_take (i := 6) (v := ?v57) (by simp only [List.getElem?_toArray, List.getElem?_cons_succ, List.getElem?_cons_zero]; exact rfl) (by kernel_rfl) (by kernel_rfl) (by kernel_rfl) (by intro _ _ _ h; exact h) (Or.inl ⟨by rfl, ?y57⟩) hHeld ?_
      case y57 => (intro w hSw; (try dsimp only at hSw); go_simp; try (with_reducible rfl))
      try simp only [Act.put, List.setIfInBounds_toArray, List.set_cons_zero, List.set_cons_succ]
      refine wpAnyH_take (i := 7) (v := ?v58) (by simp only [List.getElem?_toArray, List.getElem?_cons_succ, List.getElem?_cons_zero]; exact rfl) (by kernel_rfl) (by kernel_rfl) (by kernel_rfl) (by intro _ _ _ h; exact h) (Or.inl ⟨by rfl, ?y58⟩) hHeld ?_
      case y58 => (intro w hSw; (try dsimp only at hSw); go_simp; try (with_reducible rfl))
      try simp only [Act.put, List.setIfInBounds_toArray, List.set_cons_zero, List.set_cons_succ]
      refine wpAnyH_take (i := 8) (by simp only [List.getElem?_toArray, List.getElem?_cons_succ, List.getElem?_cons_zero]; exact rfl) (by kernel_rfl) (by kernel_rfl) (by kernel_rfl) (by intro _ _ _ h; exact h) (Or.inr ⟨by rfl, rfl⟩) hHeld ?_
      try simp only [Act.put, List.setIfInBounds_toArray, List.set_cons_zero, List.set_cons_succ]
      refine wpAnyH_take (i := 9) (by simp only [List.getElem?_toArray, List.getElem?_cons_succ, List.getElem?_cons_zero]; exact rfl) (by kernel_rfl) (by kernel_rfl) (by kernel_rfl) (by intro _ _ _ h; exact h) (Or.inr ⟨by rfl, rfl⟩) hHeld ?_
      try simp only [Act.put, List.setIfInBounds_toArray, List.set_cons_zero, List.set_cons_succ]
      refine wpAnyH_take (i := 10) (by simp only [List.getElem?_toArray, List.getElem?_cons_succ, List.getElem?_cons_zero]; exact rfl) (by kernel_rfl) (by kernel_rfl) (by kernel_rfl) (by intro _ _ _ h; exact h) (Or.inr ⟨by rfl, rfl⟩) hHeld ?_
      try simp only [Act.put, List.setIfInBounds_toArray, List.set_cons_zero, List.set_cons_succ]
      refine wpAnyH_take (i := 11) (v := ?v62) (by simp only [List.getElem?_toArray, List.getElem?_cons_succ, List.getElem?_cons_zero]; exact rfl) (by kernel_rfl) (by kernel_rfl) (by kernel_rfl) (by intro _ _ _ h; exact h) (Or.inl ⟨by rfl, ?y62⟩) hHeld ?_
      case y62 => (intro w hSw; (try dsimp only at hSw); go_simp; try (with_reducible rfl))
      try simp only [Act.put, List.setIfInBounds_toArray, List.set_cons_zero, List.set_cons_succ]
      refine wpAnyH_take (i := 12) (v := ?v63) (by simp only [List.getElem?_toArray, List.getElem?_cons_succ, List.getElem?_cons_zero]; exact rfl) (by kernel_rfl) (by kernel_rfl) (by kernel_rfl) (by intro _ _ _ h; exact h) (Or.inl ⟨by rfl, ?y63⟩) hHeld ?_
      case y63 => (intro w hSw; (try dsimp only at hSw); go_simp; try (with_reducible rfl))
      try simp only [Act.put, List.setIfInBounds_toArray, List.set_cons_zero, List.set_cons_succ]
      refine wpAnyH_take (i := 13) (by simp only [List.getElem?_toArray, List.getElem?_cons_succ, List.getElem?_cons_zero]; exact rfl) (by kernel_rfl) (by kernel_rfl) (by kernel_rfl) (by intro _ _ _ h; exact h) (Or.inr ⟨by rfl, rfl⟩) hHeld ?_
      try simp only [Act.put, List.setIfInBounds_toArray, List.set_cons_zero, List.set_cons_succ]
      refine wpAnyH_take (i := 14) (by simp only [List.getElem?_toArray, List.getElem?_cons_succ, List.getElem?_cons_zero]; exact rfl) (by kernel_rfl) (by kernel_rfl) (by kernel_rfl) (by intro _ _ _ h; exact h) (Or.inr ⟨by rfl, rfl⟩) hHeld ?_
      try simp only [Act.put, List.setIfInBounds_toArray, List.set_cons_zero, List.set_cons_succ]
      refine wpAnyH_take (i := 15) (by simp only [List.getElem?_toArray, List.getElem?_cons_succ, List.getElem?_cons_zero]; exact rfl) (by kernel_rfl) (by kernel_rfl) (by kernel_rfl) (by intro _ _ _ h; exact h) (Or.inr ⟨by rfl, rfl⟩) hHeld ?_
      try simp only [Act.put, List.setIfInBounds_toArray, List.set_cons_zero, List.set_cons_succ]
      refine wpAnyH_take (i := 16) (by simp only [List.getElem?_toArray, List.getElem?_cons_succ, List.getElem?_cons_zero]; exact rfl) (by kernel_rfl) (by kernel_rfl) (by kernel_rfl) (by intro _ _ _ h; exact h) (Or.inr ⟨by rfl, rfl⟩) hHeld ?_
      try simp only [Act.put, List.setIfInBounds_toArray, List.set_cons_zero, List.set_cons_succ]
      refine wpAnyH_take (i := 17) (by simp only [List.getElem?_toArray, List.getElem?_cons_succ, List.getElem?_cons_zero]; exact rfl) (by kernel_rfl) (by kernel_rfl) (by kernel_rfl) (by intro _ _ _ h; exact h) (Or.inr ⟨by rfl, rfl⟩) hHeld ?_
      try simp only [Act.put, List.setIfInBounds_toArray, List.set_cons_zero, List.set_cons_succ]
      refine wpAnyH_take (i := 18) (by simp only [List.getElem?_toArray, List.getElem?_cons_succ, List.getElem?_cons_zero]; exact rfl) (by kernel_rfl) (by kernel_rfl) (by kernel_rfl) (by intro _ _ _ h; exact h) (Or.inr ⟨by rfl, rfl⟩) hHeld ?_
      try simp only [Act.put, List.setIfInBounds_toArray, List.set_cons_zero, List.set_cons_succ]
      refine wpAnyH_take (i := 19) (v := ?v70) (by simp only [List.getElem?_toArray, List.getElem?_cons_succ, List.getElem?_cons_zero]; exact rfl) (by kernel_rfl) (by kernel_rfl) (by kernel_rfl) (by intro _ _ _ h; exact h) (Or.inl ⟨by rfl, ?y70⟩) hHeld ?_
      case y70 => (intro w hSw; (try dsimp only at hSw); go_simp; try (with_reducible rfl))
      try simp only [Act.put, List.setIfInBounds_toArray, List.set_cons_zero, List.set_cons_succ]
      refine wpAnyH_take (i := 20) (v := ?v71) (by simp only [List.getElem?_toArray, List.getElem?_cons_succ, List.getElem?_cons_zero]; exact rfl) (by kernel_rfl) (by kernel_rfl) (by kernel_rfl) (by intro _ _ _ h; exact h) (Or.inl ⟨by rfl, ?y71⟩) hHeld ?_
      case y71 => (intro w hSw; (try dsimp only at hSw); go_simp; try (with_reducible rfl))
      try simp only [Act.put, List.setIfInBounds_toArray, List.set_cons_zero, List.set_cons_succ]
      refine wpAnyH_done (by kernel_rfl) ?_ _
      go_wp2
      go_ret
      exact ⟨ret_bool (by simp [modB, hs1]), hq2⟩
  · have hg1 := gokB_false hg
    go_enter Tryd.func34, Tryd.ntmps34
    go_wp2
    refine wp_region_held_drew (S := (fun w' => w'.cell? ⟨w.heap.size, 0, none⟩ = some (.slice va g.length vc))) (by kernel_rfl) ?_ (fun hHeld => ?_)
    · first | assumption | (simp [go_sem])
    refine wpAnyH_take (i := 0) (v := ?v72) (by simp only [List.getElem?_toArray, List.getElem?_cons_zero]; exact rfl) (by kernel_rfl) (by kernel_rfl) (by kernel_rfl) (by intro _ _ _ h; exact h) (Or.inl ⟨by rfl, ?y72⟩) hHeld ?_
    case y72 => (intro w hSw; (try dsimp only at hSw); go_simp; try (with_reducible rfl))
    try simp only [Act.put, List.setIfInBounds_toArray, List.set_cons_zero, List.set_cons_succ]
    refine wpAnyH_ready (rs := [1]) (by kernel_rfl) (by simp) ?_
    refine AllReadyH.cons (by simp only [List.getElem?_toArray, List.getElem?_cons_succ, List.getElem?_cons_zero]; exact rfl) (fun K hK => ?_) AllReadyH.nil
    go_simp
    refine (specGraphOk_any _ _ _ hv1).mono ?_
    rintro e w1 ⟨rfl, hb1⟩
    have hq1 := hb.trans (hb1.mono hb.size)
    have hv2 := hv.below hq1 (Nat.le_refl _)
    have hu2 := hu.below hq1 (Nat.le_refl _)
    have c1 : w1.cell? ⟨w.heap.size, 0, none⟩ = some (.slice va g.length vc) := (hb1.cell (p := ⟨w.heap.size, 0, none⟩) (by simp [go_sem])).trans (by simp [go_sem])
    try dsimp only
    refine hK.out _ _ ?h74 (fun hHeld => ?_)
    case h74 => first | assumption | (simp [go_sem])
    clear hK K
    try simp only [Act.put, List.setIfInBounds_toArray, List.set_cons_zero, List.set_cons_succ]
    refine wpAnyH_take (i := 2) (v := ?v75) (by simp only [List.getElem?_toArray, List.getElem?_cons_succ, List.getElem?_cons_zero]; exact rfl) (by kernel_rfl) (by kernel_rfl) (by kernel_rfl) (by intro _ _ _ h; exact h) (Or.inl ⟨by rfl, ?y75⟩) hHeld ?_
    case y75 => (intro w hSw; (try dsimp only at hSw); go_simp; try (with_reducible rfl))
    try simp only [Act.put, List.setIfInBounds_toArray, List.set_cons_zero, List.set_cons_succ]
    refine wpAnyH_take (i := 3) (by simp only [List.getElem?_toArray, List.getElem?_cons_succ, List.getElem?_cons_zero]; exact rfl) (by kernel_rfl) (by kernel_rfl) (by kernel_rfl) (by intro _ _ _ h; exact h) (Or.inr ⟨by rfl, rfl⟩) hHeld ?_
    try simp only [Act.put, List.setIfInBounds_toArray, List.set_cons_zero, List.set_cons_succ]
    refine wpAnyH_take (i := 4) (by simp only [List.getElem?_toArray, List.getElem?_cons_succ, List.getElem?_cons_zero]; exact rfl) (by kernel_rfl) (by kernel_rfl) (by kernel_rfl) (by intro _ _ _ h; exact h) (Or.inr ⟨by rfl, rfl⟩) hHeld ?_
    try simp only [Act.put, List.setIfInBounds_toArray, List.set_cons_zero, List.set_cons_succ]
    refine wpAnyH_take (i := 5) (by simp only [List.getElem?_toArray, List.getElem?_cons_succ, List.getElem?_cons_zero]; exact rfl) (by kernel_rfl) (by kernel_rfl) (by kernel_rfl) (by intro _ _ _ h; exact h) (Or.inr ⟨by rfl, rfl⟩) hHeld ?_
    try simp only [Act.put, List.setIfInBounds_toArray, List.set_cons_zero, List.set_cons_succ]
    refine wpAnyH_take (i := 6) (v := ?v79) (by simp only [List.getElem?_toArray, List.getElem?_cons_succ, List.getElem?_cons_zero]; exact rfl) (by kernel_rfl) (by kernel_rfl) (by kernel_rfl) (by intro _ _ _ h; exact h) (Or.inl ⟨by rfl, ?y79⟩) hHeld ?_
    case y79 => (intro w hSw; (try dsimp only at hSw); go_simp; try (with_reducible rfl))
    try simp only [Act.put, List.setIfInBounds_toArray, List.set_cons_zero, List.set_cons_succ]
    refine wpAnyH_take (i := 7) (v := ?v80) (by simp only [List.getElem?_toArray, List.getElem?_cons_succ, List.getElem?_cons_zero]; exact rfl) (by kernel_rfl) (by kernel_rfl) (by kernel_rfl) (by intro _ _ _ h; exact h) (Or.inl ⟨by rfl, ?y80⟩) hHeld ?_
    case y80 => (intro w hSw; (try dsimp only at hSw); go_simp; try (with_reducible rfl))
    try simp only [Act.put, List.setIfInBounds_toArray, List.set_cons_zero, List.set_cons_succ]
    refine wpAnyH_take (i := 8) (by simp only [List.getElem?_toArray, List.getElem?_cons_succ, List.getElem?_cons_zero]; exact rfl) (by kernel_rfl) (by kernel_rfl) (by kernel_rfl) (by intro _ _ _ h; exact h) (Or.inr ⟨by rfl, rfl⟩) hHeld ?_
    try simp only [Act.put, List.setIfInBounds_toArray, List.set_cons_zero, List.set_cons_succ]
    refine wpAnyH_take (i := 9) (by simp only [List.getElem?_toArray, List.getElem?_cons_succ, List.getElem?_cons_zero]; exact rfl) (by kernel_rfl) (by kernel_rfl) (by kernel_rfl) (by intro _ _ _ h; exact h) (Or.inr ⟨by rfl, rfl⟩) hHeld ?_
    try simp only [Act.put, List.setIfInBounds_toArray, List.set_cons_zero, List.set_cons_succ]
    refine wpAnyH_take (i := 10) (by simp only [List.getElem?_toArray, List.getElem?_cons_succ, List.getElem?_cons_zero]; exact rfl) (by kernel_rfl) (by kernel_rfl) (by kernel_rfl) (by intro _ _ _ h; exact h) (Or.inr ⟨by rfl, rfl⟩) hHeld ?_
    try simp only [Act.put, List.setIfInBounds_toArray, List.set_cons_zero, List.set_cons_succ]
    refine wpAnyH_take (i := 11) (v := ?v84) (by simp only [List.getElem?_toArray, List.getElem?_cons_succ, List.getElem?_cons_zero]; exact rfl) (by kernel_rfl) (by kernel_rfl) (by kernel_rfl) (by intro _ _ _ h; exact h) (Or.inl ⟨by rfl, ?y84⟩) hHeld ?_
    case y84 => (intro w hSw; (try dsimp only at hSw); go_simp; try (with_reducible rfl))
    try simp only [Act.put, List.setIfInBounds_toArray, List.set_cons_zero, List.set_cons_succ]
    refine wpAnyH_take (i := 12) (v := ?v85) (by simp only [List.getElem?_toArray, List.getElem?_cons_succ, List.getElem?_cons_zero]; exact rfl) (by kernel_rfl) (by kernel_rfl) (by kernel_rfl) (by intro _ _ _ h; exact h) (Or.inl ⟨by rfl, ?y85⟩) hHeld ?_
    case y85 => (intro w hSw; (try dsimp only at hSw); go_simp; try (with_reducible rfl))
    try simp only [Act.put, List.setIfInBounds_toArray, List.set_cons_zero, List.set_cons_succ]
    refine wpAnyH_take (i := 13) (by simp only [List.getElem?_toArray, List.getElem?_cons_succ, List.getElem?_cons_zero]; exact rfl) (by kernel_rfl) (by kernel_rfl) (by kernel_rfl) (by intro _ _ _ h; exact h) (Or.inr ⟨by rfl, rfl⟩) hHeld ?_
    try simp only [Act.put, List.setIfInBounds_toArray, List.set_cons_zero, List.set_cons_succ]
    refine wpAnyH_take (i := 14) (by simp only [List.getElem?_toArray, List.getElem?_cons_succ, List.getElem?_cons_zero]; exact rfl) (by kernel_rfl) (by kernel_rfl) (by kernel_rfl) (by intro _ _ _ h; exact h) (Or.inr ⟨by rfl, rfl⟩) hHeld ?_
    try simp only [Act.put, List.setIfInBounds_toArray, List.set_cons_zero, List.set_cons_succ]
    refine wpAnyH_take (i := 15) (by simp only [List.getElem?_toArray, List.getElem?_cons_succ, List.getElem?_cons_zero]; exact rfl) (by kernel_rfl) (by kernel_rfl) (by kernel_rfl) (by intro _ _ _ h; exact h) (Or.inr ⟨by rfl, rfl⟩) hHeld ?_
    try simp only [Act.put, List.setIfInBounds_toArray, List.set_cons_zero, List.set_cons_succ]
    refine wpAnyH_take (i := 16) (by simp only [List.getElem?_toArray, List.getElem?_cons_succ, List.getElem?_cons_zero]; exact rfl) (by kernel_rfl) (by kernel_rfl) (by kernel_rfl) (by intro _ _ _ h; exact h) (Or.inr ⟨by rfl, rfl⟩) hHeld ?_
    try simp only [Act.put, List.setIfInBounds_toArray, List.set_cons_zero, List.set_cons_succ]
    refine wpAnyH_take (i := 17) (by simp only [List.getElem?_toArray, List.getElem?_cons_succ, List.getElem?_cons_zero]; exact rfl) (by kernel_rfl) (by kernel_rfl) (by kernel_rfl) (by intro _ _ _ h; exact h) (Or.inr ⟨by rfl, rfl⟩) hHeld ?_
    try simp only [Act.put, List.setIfInBounds_toArray, List.set_cons_zero, List.set_cons_succ]
    refine wpAnyH_take (i := 18) (by simp only [List.getElem?_toArray, List.getElem?_cons_succ, List.getElem?_cons_zero]; exact rfl) (by kernel_rfl) (by kernel_rfl) (by kernel_rfl) (by intro _ _ _ h; exact h) (Or.inr ⟨by rfl, rfl⟩) hHeld ?_
    try simp only [Act.put, List.setIfInBounds_toArray, List.set_cons_zero, List.set_cons_succ]
    refine wpAnyH_take (i := 19) (v := ?v92) (by simp only [List.getElem?_toArray, List.getElem?_cons_succ, List.getElem?_cons_zero]; exact rfl) (by kernel_rfl) (by kernel_rfl) (by kernel_rfl) (by intro _ _ _ h; exact h) (Or.inl ⟨by rfl, ?y92⟩) hHeld ?_
    case y92 => (intro w hSw; (try dsimp only at hSw); go_simp; try (with_reducible rfl))
    try simp only [Act.put, List.setIfInBounds_toArray, List.set_cons_zero, List.set_cons_succ]
    refine wpAnyH_take (i := 20) (v := ?v93) (by simp only [List.getElem?_toArray, List.getElem?_cons_succ, List.getElem?_cons_zero]; exact rfl) (by kernel_rfl) (by kernel_rfl) (by kernel_rfl) (by intro _ _ _ h; exact h) (Or.inl ⟨by rfl, ?y93⟩) hHeld ?_
    case y93 => (intro w hSw; (try dsimp only at hSw); go_simp; try (with_reducible rfl))
    try simp only [Act.put, List.setIfInBounds_toArray, List.set_cons_zero, List.set_cons_succ]
    refine wpAnyH_done (by kernel_rfl) ?_ _
    go_wp2
    go_ret
    exact ⟨ret_bool (by simp [modB, setOkB, hg1]), hq1⟩

/-- Words as integers. -/
def natsI (l : List Nat) : List Int := l.map fun n : Nat => (n : Int)
theorem natsI_len (l : List Nat) : (natsI l).length = l.length := by simp [natsI]
theorem natsI_get {l : List Nat} {i : Nat} (h : i < (natsI l).length) : (natsI l)[i] = ((l[i]'(by simpa [natsI] using h) : Nat) : Int) := by simp [natsI]
def netsL (g : List (List Int)) : List Nat := g.map maskL
theorem netsI_snoc (l : List (List Int)) (x : List Int) : natsI (netsL (l ++ [x])) = natsI (netsL l) ++ [(maskL x : Int)] := by simp [natsI, netsL]
theorem GOk.ge {g : List (List Int)} (h : GOk g) {v : Nat} (hv : v < g.length) : ∀ x ∈ g[v], 0 ≤ x ∧ x < g.length := by
  intro x hx
  obtain ⟨i, hi, rfl⟩ := List.getElem_of_mem hx
  have := h.rise v hv i hi hi
  omega
theorem GOk.ge32 {g : List (List Int)} (h : GOk g) {v : Nat} (hv : v < g.length) : ∀ x ∈ g[v], 0 ≤ x ∧ x < 32 := by
  intro x hx
  have h1 := h.ge hv x hx
  have h2 := h.hi
  omega
theorem rise_ge {s : List Int} {n : Int} (h : Rise s n) : ∀ x ∈ s, 0 ≤ x ∧ x < n := by
  intro x hx
  obtain ⟨i, hi, rfl⟩ := List.getElem_of_mem hx
  have := h i hi hi
  omega
/-- a &^ b. -/
def andN (a b : Nat) : Nat := a &&& (4294967295 - b)
theorem testBit_andN {a b : Nat} (ha : a < 4294967296) (hb : b < 4294967296) (i : Nat) : (andN a b).testBit i = (a.testBit i && !b.testBit i) := by
  unfold andN
  rw [Nat.testBit_and]
  have e : 4294967295 - b = 2 ^ 32 - (b + 1) := by omega
  rw [e, Nat.testBit_two_pow_sub_succ (by simpa using hb)]
  by_cases h : i < 32
  · simp [h]
  · have : a.testBit i = false := Nat.testBit_lt_two_pow (Nat.lt_of_lt_of_le ha (by
      have := Nat.pow_le_pow_right (n := 2) (by decide) (show 32 ≤ i by omega); simpa using this))
    simp [this]
theorem andN_le (a b : Nat) : andN a b ≤ a := Nat.and_le_left
theorem firstN_lt {n : Nat} (h : n ≤ 16) : firstN n < 65536 := by
  have h1 := pow_le16 h
  have h2 := Nat.two_pow_pos n
  unfold firstN; omega
/-- Which of some vertices split a set of words. -/
def splW (a : List Nat) (s : Nat) (v : Int) : Bool := decide (a.getD v.toNat 0 &&& s ≠ 0) && decide (a.getD v.toNat 0 &&& s ≠ s)
def splN (a : List Nat) (within s : Nat) : Nat := maskL ((bitsI (andN within s)).filter (splW a s))
theorem maskL_filter_take {l : List Int} {p : Int → Bool} {k : Nat} (hk : k < l.length) : maskL ((l.take (k + 1)).filter p) = if p l[k] = true then maskL ((l.take k).filter p) ||| bit (l[k]).toNat else maskL ((l.take k).filter p) := by
  rw [List.take_succ_eq_append_getElem hk, List.filter_append]
  by_cases h : p l[k] = true
  · rw [if_pos h, ← maskL_snoc]; simp [h]
  · rw [if_neg h]; simp [h]
theorem bitsI_lt {m : Nat} {n : Nat} (hm : m < 2 ^ n) (hn : n ≤ 32) : ∀ v ∈ bitsI m, 0 ≤ v ∧ v < n := by
  intro v hv
  have hm32 : m < 4294967296 := Nat.lt_of_lt_of_le hm (by have := Nat.pow_le_pow_right (n := 2) (by decide) hn; simpa using this)
  obtain ⟨h0, h1⟩ := (mem_bitsI hm32).1 hv
  refine ⟨h0, ?_⟩
  apply Int.lt_of_not_ge
  intro hge
  have : m < 2 ^ v.toNat := Nat.lt_of_lt_of_le hm (Nat.pow_le_pow_right (by decide) (by omega))
  rw [Nat.testBit_lt_two_pow this] at h1; cases h1
theorem lt_bits {m n : Nat} (h : ∀ i, m.testBit i = true → i < n) : m < 2 ^ n := Nat.lt_pow_two_of_testBit m fun i hi => by
  by_cases hb : m.testBit i = true
  · have := h i hb; omega
  · simpa using hb

theorem elNets : Elem Tryd.prog 75 82 1 4 (.int .u32 0) := ⟨Tryd.underlying75, by kernel_rfl, rfl, by omega, by omega⟩
set_option maxHeartbeats 1000000 in
theorem netsOf_any {S : Nat → Prop} (v : Value) (g : List (List Int)) (w : World) (hv : SlR S w v g) (hg : GOk g) :
    Calls Tryd.prog 53 #[.agg #[v]] w fun e w' => ∃ u, e = .returned u ∧ Own w' w.heap.size 82 1 u g.length ((natsI (netsL g)).map (.int .u32)) ∧ Below w.heap.size w w' := by
  obtain ⟨a, b, off, cap, f, rfl, hl, ha, hc0⟩ := hv
  have hhi := hg.hi
  go_enter Tryd.func53, Tryd.ntmps53
  go_wp2
  go_loopw [10, 3] (fun i o wr => ∃ k : Nat, k ≤ g.length ∧ i = .int .i64 k ∧ Own wr w.heap.size 82 1 o k ((natsI (netsL (g.take k))).map (.int .u32)) ∧ Below w.heap.size w wr) (fun i _ _ => g.length - (intOf i).toNat)
  case atStart =>
    refine ⟨0, Nat.zero_le _, rfl, ?_, ((Below.refl _ _).alloc (Nat.le_refl _) _).alloc (by simp) _⟩
    have := World.ownsRow_lit (base := w.heap.size) (e := 82) (size := 1) (w.alloc (.cells #[.slice a g.length cap] 29)) #[] 0 (by simp) (by unfold maxLen; omega) rfl
    simpa [Own, natsI, netsL] using this
  case round =>
    obtain ⟨k, hk, rfl, hown, hq⟩ := hrel
    have hc := hc0.below hq (Nat.le_refl _)
    have hB := hq.size
    by_cases hlt : k < g.length
    · obtain ⟨hcell, hrow⟩ := hc k hlt
      obtain ⟨rfl, hS⟩ := ha (by omega)
      go_wp2_with (first
        | (go_at_call 89; refine (maskOf_any _ _ _ hrow (hg.ge32 hlt)).mono ?_; rintro e w' ⟨rfl, rfl⟩)
        | (at_builtin; refine wpList_append1 elNets rfl _ _ rfl hown rfl rfl rfl (by omega) hB ?_; intro v' w1 hown1 hkept hmv))
      go_roundw
      case rel =>
        refine ⟨k + 1, by omega, by go_num, ?_, hkept.below hq hB hown.ge⟩
        rw [List.take_succ_eq_append_getElem hlt, netsI_snoc, List.map_append]; exact hown1
      case measure => simp [intOf]; omega
    · go_wp2
      go_ret
      obtain rfl : k = g.length := by omega
      rw [List.take_length] at hown
      exact ⟨_, rfl, hown, hq⟩
theorem allOf_any (a : Option Addr) (n c : Nat) (w : World) (hn : n ≤ 16) : Calls Tryd.prog 74 #[.slice a n c] w fun e w' => e = .returned (.int .u32 (firstN n : Int)) ∧ w = w' := by
  go_enter Tryd.func74, Tryd.ntmps74
  go_wp2_with (go_at_call 105; refine (firstOf_any _ _ (by omega) (by omega)).mono ?_; rintro e w' ⟨rfl, rfl⟩)
  go_ret
  exact ⟨rfl, rfl⟩
set_option maxHeartbeats 2000000 in
theorem splitters_any {S : Nat → Prop} (v : Value) (a : List Nat) (wi s : Nat) (w : World) (ht : Tab w) (hv : SlI S w .u32 v (natsI a)) (ha16 : a.length ≤ 16) (hwi : wi < 2 ^ a.length) (hs : s < 4294967296) (hal : ∀ x ∈ a, x < 4294967296) :
    Calls Tryd.prog 144 #[v, .int .u32 wi, .int .u32 s] w fun e w' => e = .returned (.int .u32 (splN a wi s : Int)) ∧ Below w.heap.size w w' := by
  have hw32 : wi < 4294967296 := Nat.lt_of_lt_of_le hwi (by have := pow_le16 ha16; omega)
  have hl32 : andN wi s < 2 ^ a.length := Nat.lt_of_le_of_lt (andN_le _ _) hwi
  have hl4 : andN wi s < 4294967296 := Nat.lt_of_le_of_lt (andN_le _ _) hw32
  have hbl := bitsI_lt hl32 (by omega)
  obtain ⟨va, vb, voff, vcap, rfl, hvl, hva, hvc0⟩ := hv
  have han : bits BinOp.andNot IntKind.u32 (wi : Int) (s : Int) = (andN wi s : Int) := u32_andNot_nat wi s hw32 hs
  have hnl := natsI_len a
  have HNL := Lib.hid hnl; clear hnl
  go_enter Tryd.func144, Tryd.ntmps144
  go_wp2_with (go_at_call 111; refine (list_any _ _ ht hl4).mono ?_; rintro e w' ⟨u, rfl, hu, hq'⟩; obtain ⟨ua, ub, uoff, ucap, rfl, hul, hua, huc0⟩ := hu.ints (by have := bitsI_len (andN wi s); omega))
  clear han
  go_loopw [16, 7] (fun i o wr => ∃ k : Nat, k ≤ (bitsI (andN wi s)).length ∧ i = .int .i64 k ∧ o = .int .u32 (maskL (((bitsI (andN wi s)).take k).filter (splW a s)) : Int) ∧ Drawn w' wr) (fun i _ _ => (bitsI (andN wi s)).length - (intOf i).toNat)
  case atStart => exact ⟨0, Nat.zero_le _, rfl, by simp [maskL], Drawn.refl _⟩
  case round =>
    obtain ⟨k, hk, rfl, rfl, hd⟩ := hrel
    have hvc := (hvc0.below hq' (Nat.le_refl _)).drawn hd
    have huc := huc0.drawn hd
    have hbk := bitsI_len (andN wi s)
    by_cases hlt : k < (bitsI (andN wi s)).length
    · have hxk := hbl (bitsI (andN wi s))[k] (List.getElem_mem _)
      have hcell := huc k hlt
      obtain ⟨rfl, _⟩ := hua (by omega)
      obtain ⟨x, hx⟩ := Int.eq_ofNat_of_zero_le hxk.1
      have hft := maskL_filter_take (p := splW a s) hlt
      rw [hx] at hcell hft hxk
      have hxa : x < a.length := by omega
      have hcell2 := hvc x (by rw [HNL.out]; exact hxa)
      rw [natsI_get] at hcell2
      obtain ⟨rfl, _⟩ := hva (by rw [HNL.out]; omega)
      have hax := hal a[x] (List.getElem_mem _)
      have hand := u32_and_nat a[x] s hax hs
      have hxb : (x : Int) < (natsI a).length := by rw [HNL.out]; omega
      have hml : maskL (((bitsI (andN wi s)).take k).filter (splW a s)) < 4294967296 := by
        have := maskL_lt (xs := ((bitsI (andN wi s)).take k).filter (splW a s)) (n := 32) (fun v hv => by have := hbl v (List.mem_of_mem_take (List.mem_filter.1 hv).1); omega)
        simpa using this
      have hor := u32_or_nat _ (bit x) hml (bit_lt (by omega))
      have hsw : splW a s (x : Int) = (decide (a[x] &&& s ≠ 0) && decide (a[x] &&& s ≠ s)) := by simp [splW, hxa]
      have HFT := Lib.hid hft; have HX := Lib.hid hx; have HSW := Lib.hid hsw; clear hft hx hsw
      have HOR := Lib.hid hor; clear hor
      by_cases h1 : a[x] &&& s = 0
      · have hb1 : (((a[x] &&& s : Nat) : Int) != 0) = false := by rw [h1]; rfl
        go_wp2
        go_roundw
        case rel => exact ⟨k + 1, by omega, by go_num, by rw [HFT.out, HSW.out, if_neg (by simp [h1])], hd⟩
        case measure => simp [intOf]; omega
      · have hb1 : (((a[x] &&& s : Nat) : Int) != 0) = true := by rw [bne_iff_ne]; omega
        by_cases h2 : a[x] &&& s = s
        · have hb2 : (((a[x] &&& s : Nat) : Int) != (s : Int)) = false := by rw [h2]; simp
          go_wp2
          go_roundw
          case rel => exact ⟨k + 1, by omega, by go_num, by rw [HFT.out, HSW.out, if_neg (by simp [h2])], hd⟩
          case measure => simp [intOf]; omega
        · have hb2 : (((a[x] &&& s : Nat) : Int) != (s : Int)) = true := by rw [bne_iff_ne]; omega
          go_wp2_with (go_at_call 104; refine (one_any _ _ (by omega) (by omega)).mono ?_; rintro e w2 ⟨rfl, rfl⟩)
          go_roundw
          case rel => exact ⟨k + 1, by omega, by go_num, by rw [HFT.out, HSW.out, if_pos (by simp [h1, h2])]; exact congrArg (Value.int .u32) HOR.out, hd⟩
          case measure => simp [intOf]; omega
    · go_wp2
      go_ret
      refine ⟨ret_int ?_, hq'.trans (hd.below _ |>.mono hq'.size)⟩
      rw [List.take_of_length_le (by omega)]; rfl
end Go.Proofs.YtpdlcnpmljfclaaDoor
