/- Modules: what splits a set, by the reference and by the program. -/
import Derived.Test.YtbpjbjeglcphcaaDoorBits
import Derived.Test.YtbpjbjeglcphcaaDoorGok
import Derived.StillTailTactics
namespace Go.Proofs.YtbpjbjeglcphcaaDoor
open Go.RowKit

noncomputable def setOkB (g : List (List Int)) (s : List Int) : Bool := gokB g && riseB s g.length
def rangeI (n : Nat) : List Int := (List.range n).map fun i : Nat => (i : Int)
theorem rangeI_succ (n : Nat) : rangeI (n + 1) = rangeI n ++ [(n : Int)] := by simp [rangeI, List.range_succ]
theorem rangeI_len (n : Nat) : (rangeI n).length = n := by simp [rangeI]
theorem rangeI_get {n i : Nat} (h : i < (rangeI n).length) : (rangeI n)[i] = (i : Int) := by simp [rangeI]
theorem mem_rangeI {n : Nat} {v : Int} : v ∈ rangeI n ↔ 0 ≤ v ∧ v < n := by
  simp only [rangeI, List.mem_map, List.mem_range]
  constructor
  · rintro ⟨i, hi, rfl⟩; omega
  · rintro ⟨h0, h1⟩; exact ⟨v.toNat, by omega, by omega⟩
/-- How many of a set are in a row. -/
def cntIn (set row : List Int) : Nat := (set.filter (fun x => decide (x ∈ row))).length
theorem cntIn_le (set row : List Int) : cntIn set row ≤ set.length := List.length_filter_le _ _
theorem cntIn_take {set row : List Int} {k : Nat} (hk : k < set.length) : cntIn (set.take (k + 1)) row = cntIn (set.take k) row + if set[k] ∈ row then 1 else 0 := by
  unfold cntIn
  rw [List.take_succ_eq_append_getElem hk, List.filter_append, List.length_append]
  by_cases h : set[k] ∈ row <;> simp [h]
def splitsB (g : List (List Int)) (set : List Int) (v : Int) : Bool := decide (0 < cntIn set (g.getD v.toNat [])) && decide (cntIn set (g.getD v.toNat []) < set.length)
def splitAtB (g : List (List Int)) (set : List Int) (v : Int) : Bool := !decide (v ∈ set) && splitsB g set v
def splitterI (g : List (List Int)) (inside set : List Int) : Int := match inside.find? (splitAtB g set) with | some v => v | none => -1
theorem splitter_hit {g : List (List Int)} {inside set : List Int} {k : Nat} (hk : k < inside.length) (h : ∀ v ∈ inside.take k, splitAtB g set v = false) (hb : splitAtB g set inside[k] = true) : splitterI g inside set = inside[k] := by
  have : inside.find? (splitAtB g set) = some inside[k] := by
    have e : inside = inside.take k ++ inside[k] :: inside.drop (k + 1) := by rw [← List.drop_eq_getElem_cons hk, List.take_append_drop]
    have h2 : (inside.take k ++ inside[k] :: inside.drop (k + 1)).find? (splitAtB g set) = some inside[k] := by
      rw [List.find?_append, List.find?_eq_none.2 (fun v hv => by simp [h v hv]), List.find?_cons, hb]
      rfl
    rw [← e] at h2; exact h2
  rw [splitterI, this]
theorem splitter_none {g : List (List Int)} {inside set : List Int} {k : Nat} (hk : inside.length ≤ k) (h : ∀ v ∈ inside.take k, splitAtB g set v = false) : splitterI g inside set = -1 := by
  rw [List.take_of_length_le hk] at h
  rw [splitterI, List.find?_eq_none.2 (fun v hv => by simp [h v hv])]
theorem take_step {α : Type} {P : α → Prop} {xs : List α} {k : Nat} (hk : k < xs.length) (h : ∀ v ∈ xs.take k, P v) (h1 : P xs[k]) : ∀ v ∈ xs.take (k + 1), P v := by
  intro v hv
  rw [List.take_succ_eq_append_getElem hk] at hv
  simp only [List.mem_append, List.mem_singleton] at hv
  rcases hv with hv | rfl
  · exact h v hv
  · exact h1

theorem specSetOk_any {S S' : Nat → Prop} (v u : Value) (g : List (List Int)) (s : List Int) (w : World) (hv : SlR S w v g) (hu : SlI S' w .i64 u s) :
    Calls Tryd.prog 31 #[.agg #[v], u] w fun e w' => e = .returned (.bool (setOkB g s)) ∧ Below w.heap.size w w' := by
  have hb : Below w.heap.size w (w.alloc (.cells #[v] 28)) := (Below.refl _ _).alloc (Nat.le_refl _) _
  obtain ⟨va, vc, rfl⟩ := hv.slice
  by_cases hg : GOk g
  · have hg1 := gokB_true hg
    have hlo := hg.lo
    have hhi := hg.hi
    go_enter Tryd.func31, Tryd.ntmps31
    go_wp2_with fail
    refine (specGraphOk_any _ _ _ (hv.below hb (Nat.le_refl _))).mono ?_
    rintro e w' ⟨rfl, hb2⟩
    have c1 : w'.cell? ⟨w.heap.size, 0, none⟩ = some (.slice va g.length vc) := (hb2.cell (p := ⟨w.heap.size, 0, none⟩) (by simp)).trans (by simp [go_sem])
    have hb3 : Below w.heap.size w (w'.alloc (.cells #[.slice va g.length vc] 28)) := (hb.trans (hb2.mono hb.size)).alloc (Nat.le_trans hb.size hb2.size) _
    have hs : (riseB s g.length) = setOkB g s := by simp [setOkB, hg1]
    have HS := Lib.hid hs; clear hs
    go_wp2_with (first | (go_at_call 43; refine (l1Set_any _ _ _ _ (hu.below hb3 (Nat.le_refl _)) (by omega) (by omega)).mono ?_; rintro e w' ⟨rfl, m, rfl⟩) | go_in)
    go_ret
    exact ⟨ret_bool HS.out, hb3.drewN' _⟩
  · have hg1 := gokB_false hg
    go_enter Tryd.func31, Tryd.ntmps31
    go_wp2_with (go_at_call 25; refine (specGraphOk_any _ _ _ (hv.below hb (Nat.le_refl _))).mono ?_; rintro e w' ⟨rfl, hb2⟩)
    go_ret
    exact ⟨ret_bool (by simp [setOkB, hg1]), hb.trans (hb2.mono hb.size)⟩
set_option maxHeartbeats 1000000 in
theorem l16All_any {S : Nat → Prop} (v : Value) (g : List (List Int)) (w : World) (hv : SlR S w v g) (hn : g.length ≤ 1048576) :
    Calls Tryd.prog 29 #[.agg #[v]] w fun e w' => ∃ u, e = .returned u ∧ Own w' w.heap.size 2 1 u g.length ((rangeI g.length).map (.int .i64)) ∧ Below w.heap.size w w' := by
  obtain ⟨va, vc, rfl⟩ := hv.slice
  go_enter Tryd.func29, Tryd.ntmps29
  go_wp2
  go_loopw [3, 4] (fun o i wr => ∃ k : Nat, k ≤ g.length ∧ i = .int .i64 k ∧ Own wr w.heap.size 2 1 o k ((rangeI k).map (.int .i64)) ∧ Below w.heap.size w wr ∧ wr.cell? ⟨w.heap.size, 0, none⟩ = some (.slice va g.length vc) ∧ (∀ b, o.ownBlock = some b → w.heap.size < b)) (fun _ i _ => g.length - (intOf i).toNat)
  case atStart =>
    refine ⟨0, Nat.zero_le _, rfl, ?_, ((Below.refl _ _).alloc (Nat.le_refl _) _).alloc (by simp) _, by simp [go_sem], by simp [Value.ownBlock]⟩
    have := World.ownsRow_lit (base := w.heap.size) (e := 2) (size := 1) (w.alloc (.cells #[.slice va g.length vc] 28)) #[] 0 (by simp) (by unfold maxLen; omega) rfl
    simpa [Own, rangeI] using this
  case round =>
    obtain ⟨k, hk, rfl, hown, hq, hbx, hne⟩ := hrel
    have hB := hq.size
    by_cases hlt : k < g.length
    · go_wp2_with (at_builtin; refine wpList_append1 elI64 rfl _ _ rfl hown rfl rfl rfl (by omega) hB ?_; intro v' w1 hown1 hkept hmv)
      go_roundw
      case rel =>
        have hne' : ∀ b, v'.ownBlock = some b → w.heap.size < b := fun b hb => by
          rcases hmv with h | h
          · exact hne b (h ▸ hb)
          · rw [h] at hb; simp at hb; have := cell_lt hbx; simp at this; omega
        refine ⟨k + 1, by omega, by go_num, ?_, hkept.below hq hB hown.ge, ?_, hne'⟩
        · rw [rangeI_succ]; simpa using hown1
        · rw [cell_heap (hkept.2.2.2.2 _ (cell_lt hbx) (fun e => by have := hne _ e.symm; simp at this))]; exact hbx
      case measure => simp [intOf]; omega
    · go_wp2
      go_ret
      obtain rfl : k = g.length := by omega
      exact ⟨_, rfl, hown, hq⟩
set_option maxHeartbeats 1000000 in
theorem l17Splits_any {S S' : Nat → Prop} (v u : Value) (g : List (List Int)) (set : List Int) (x : Int) (w : World) (hv : SlR S w v g) (hu : SlI S' w .i64 u set) (h0 : 0 ≤ x) (h1 : x < g.length) :
    Calls Tryd.prog 44 #[.agg #[v], u, .int .i64 x] w fun e w' => e = .returned (.bool (splitsB g set x)) ∧ Below w.heap.size w w' := by
  obtain ⟨a, b, off, cap, f, rfl, hl, ha, hc0⟩ := hv
  obtain ⟨a', b', off', cap', rfl, hl', ha', hc0'⟩ := hu
  obtain ⟨n, rfl⟩ := Int.eq_ofNat_of_zero_le h0
  have hn : n < g.length := by omega
  obtain ⟨rfl, _⟩ := ha (by omega)
  have hrowE : g.getD ((n : Int)).toNat [] = g[n] := by simp [hn]
  have HE := Lib.hid hrowE; clear hrowE
  go_enter Tryd.func44, Tryd.ntmps44
  go_wp2
  go_loopw [7, 8] (fun c i wr => ∃ k : Nat, k ≤ set.length ∧ i = .int .i64 k ∧ c = .int .i64 (cntIn (set.take k) g[n] : Int) ∧ Below w.heap.size w wr ∧ wr.cell? ⟨w.heap.size, 0, none⟩ = some (.slice (some ⟨b, off, none⟩) g.length cap)) (fun _ i _ => set.length - (intOf i).toNat)
  case atStart => exact ⟨0, Nat.zero_le _, rfl, by simp [cntIn], (Below.refl _ _).alloc (Nat.le_refl _) _, by simp [go_sem]⟩
  case round =>
    obtain ⟨k, hk, rfl, rfl, hq, hbx⟩ := hrel
    have hc := hc0.below hq (Nat.le_refl _)
    have hc' := hc0'.below hq (Nat.le_refl _)
    have hcl := cntIn_le (set.take k) g[n]
    have htl : (set.take k).length ≤ k := List.length_take_le _ _
    by_cases hlt : k < set.length
    · obtain ⟨hcell, hrow⟩ := hc n hn
      have hcell' := hc' k hlt
      obtain ⟨rfl, _⟩ := ha' (by omega)
      have hct := Lib.hid (cntIn_take (row := g[n]) hlt)
      by_cases hin : set[k] ∈ g[n]
      · have hbin : decide (set[k] ∈ g[n]) = true := by simpa using hin
        go_wp2
        go_quiet ((go_at_call 32; exact quiet_same (l1Has_any _ _ _ _ (hrow.drewN _))))
        go_wp2
        go_roundw
        case rel => exact ⟨k + 1, by omega, by go_num, by rw [hct.out, if_pos hin]; go_num, hq.drew' _, hbx⟩
        case measure => simp [intOf]; omega
      · have hbin : decide (set[k] ∈ g[n]) = false := by simpa using hin
        go_wp2
        go_quiet ((go_at_call 32; exact quiet_same (l1Has_any _ _ _ _ (hrow.drewN _))))
        go_wp2
        go_roundw
        case rel => exact ⟨k + 1, by omega, by go_num, by rw [hct.out, if_neg hin]; go_num, hq.drew' _, hbx⟩
        case measure => simp [intOf]; omega
    · have ht : set.take k = set := List.take_of_length_le (by omega)
      have HT := Lib.hid ht; clear ht
      by_cases hp : 0 < cntIn (set.take k) g[n]
      · by_cases hp2 : cntIn (set.take k) g[n] < set.length
        · go_wp2
          go_ret
          refine ⟨ret_bool ?_, hq⟩
          rw [HT.out] at hp hp2
          unfold splitsB; rw [HE.out]; simp [hp, hp2]
        · go_wp2
          go_ret
          refine ⟨ret_bool ?_, hq⟩
          rw [HT.out] at hp hp2
          have : decide (cntIn set g[n] < set.length) = false := by simpa using hp2
          unfold splitsB; rw [HE.out, this]; simp
      · go_wp2
        go_ret
        refine ⟨ret_bool ?_, hq⟩
        rw [HT.out] at hp
        have : decide (0 < cntIn set g[n]) = false := by simpa using hp
        unfold splitsB; rw [HE.out, this]; simp
set_option maxHeartbeats 1000000 in
theorem l17Splitter_any {S S' S'' : Nat → Prop} (v u t : Value) (g : List (List Int)) (inside set : List Int) (w : World) (hv : SlR S w v g) (hu : SlI S' w .i64 u inside) (hs : SlI S'' w .i64 t set) (hin : ∀ x ∈ inside, 0 ≤ x ∧ x < g.length) :
    Calls Tryd.prog 28 #[.agg #[v], u, t] w fun e w' => e = .returned (.int .i64 (splitterI g inside set)) ∧ Below w.heap.size w w' := by
  obtain ⟨va, vc, rfl⟩ := hv.slice
  obtain ⟨a, b, off, cap, rfl, hl, ha, hc0⟩ := hu
  go_enter Tryd.func28, Tryd.ntmps28
  go_wp2
  go_loopw [7] (fun i wr => ∃ k : Nat, k ≤ inside.length ∧ i = .int .i64 k ∧ (∀ v ∈ inside.take k, splitAtB g set v = false) ∧ Below w.heap.size w wr ∧ wr.cell? ⟨w.heap.size, 0, none⟩ = some (.slice va g.length vc)) (fun i _ => inside.length - (intOf i).toNat)
  case atStart => exact ⟨0, Nat.zero_le _, rfl, by simp, (Below.refl _ _).alloc (Nat.le_refl _) _, by simp [go_sem]⟩
  case round =>
    obtain ⟨k, hk, rfl, hno, hq, hbx⟩ := hrel
    have hc := hc0.below hq (Nat.le_refl _)
    have hs1 := hs.below hq (Nat.le_refl _)
    have hv1 := hv.below hq (Nat.le_refl _)
    by_cases hlt : k < inside.length
    · have hcell := hc k hlt
      obtain ⟨rfl, _⟩ := ha (by omega)
      have hik := hin inside[k] (List.getElem_mem _)
      have HNO := Lib.hid hno; clear hno
      by_cases hm : inside[k] ∈ set
      · have hmb : decide (inside[k] ∈ set) = true := by simpa using hm
        go_wp2
        go_quiet ((go_at_call 32; exact quiet_same (l1Has_any _ _ _ _ (hs1.drewN _))))
        go_wp2
        go_roundw
        case rel => exact ⟨k + 1, by omega, by go_num, take_step hlt HNO.out (by simp [splitAtB, hm]), hq.drew' _, hbx⟩
        case measure => simp [intOf]; omega
      · have hmb : decide (inside[k] ∈ set) = false := by simpa using hm
        go_wp2
        go_region_held3 (fun w' => w'.cell? ⟨b, off + k, none⟩ = some (.int .i64 inside[k]) ∧ w'.cell? ⟨w.heap.size, 0, none⟩ = some (.slice va g.length vc)) (first | assumption | (simp [*, go_sem])) (first | (go_at_call 32; refine (l1Has_any _ _ _ _ hs1.drew).mono ?_; rintro e w' ⟨rfl, rfl⟩) | (go_at_call 44; refine (l17Splits_any _ _ _ _ _ _ hv1.drew hs1.drew hik.1 hik.2).mono ?_; rintro e w' ⟨rfl, hq2⟩; have hq3 : Below w.heap.size w w' := hq.trans ((show Below wr.heap.size wr w' from ⟨hq2.os, hq2.tape, hq2.output, hq2.size, hq2.block⟩).mono hq.size); have hcell3 := hc0.below hq3 (Nat.le_refl _) k hlt; have hbx3 : w'.cell? ⟨w.heap.size, 0, none⟩ = some (.slice va g.length vc) := (hq2.cell (p := ⟨w.heap.size, 0, none⟩) (cell_lt hbx)).trans hbx))
        all_goals
          go_wp2
          · have hsp : splitsB g set inside[k] = true := by assumption
            go_ret
            exact ⟨ret_int (splitter_hit hlt HNO.out (by simp [splitAtB, hm, hsp])).symm, hq3⟩
          · have hsp : splitsB g set inside[k] = false := by assumption
            go_roundw
            case rel => exact ⟨k + 1, by omega, by go_num, take_step hlt HNO.out (by simp [splitAtB, hsp]), hq3, hbx3⟩
            case measure => simp [intOf]; omega
    · go_wp2
      go_ret
      exact ⟨ret_int (splitter_none (by omega) hno).symm, hq⟩
end Go.Proofs.YtbpjbjeglcphcaaDoor
