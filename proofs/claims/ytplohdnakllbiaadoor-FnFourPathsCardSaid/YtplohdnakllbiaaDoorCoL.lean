/- CographIn of both; the law. -/
import Derived.Test.YtplohdnakllbiaaDoorCoI
namespace Go.Proofs.YtplohdnakllbiaaDoor
open Go.RowKit
theorem pop_firstN {n : Nat} (hn : n ≤ 16) : popN (firstN n) = n := by rw [popN_I, ← rangeI_bits hn, rangeI_len]
def OkP (ok : Bool) (w : World) (e : Ending) (w' : World) : Prop := ∃ r, e = .returned (.tuple #[r, .bool ok]) ∧ Below w.heap.size w w'
set_option maxHeartbeats 4000000 in
theorem implCoTree_any {S : Nat → Prop} {v : Value} {g : List (List Int)} {w : World} (ht : Tab w) (hw0 : 0 < w.heap.size) (hv : SlR S w v g) :
    Calls Tryd.prog 90 #[.agg #[v]] w (OkP (cographB g) w) := by
  have hq0 : Below w.heap.size w (w.alloc (.cells #[v] 29)) := (Below.refl _ _).alloc (Nat.le_refl _) _
  obtain ⟨va, vc, rfl⟩ := hv.slice
  have hgo := implGraphOk_any _ _ _ (hv.below hq0 (Nat.le_refl _))
  by_cases hgg : gokB g = true
  case neg =>
    have hgg' : gokB g = false := by simpa using hgg
    rw [hgg'] at hgo
    have HE := Lib.hid (show cographB g = false by simp [cographB, hgg'])
    clear hgg hgg'
    go_enter Tryd.func90, Tryd.ntmps90
    go_wp2_with fail
    refine hgo.mono ?_
    rintro e w1 ⟨rfl, hb1⟩
    go_wp2
    go_ret2
    rw [HE.out]
    exact ⟨_, rfl, hq0.trans (hb1.mono hq0.size)⟩
  rw [hgg] at hgo
  have hg := gokB_iff.1 hgg
  have h16 := hg.hi
  have hlo := hg.lo
  have HE := Lib.hid (show cographB g = coB (netsL g) (complN (netsL g)) g.length (firstN g.length) by simp [cographB, hgg])
  have hpf := pop_firstN h16
  have hf2 := firstN_two g.length
  have hnl := netsL_len g
  have hcl := complN_len (netsL g)
  have hc32 := complN_lt (a := netsL g) (by omega)
  clear hgg
  go_enter Tryd.func90, Tryd.ntmps90
  go_wp2_with fail
  refine hgo.mono ?_
  rintro e w1 ⟨rfl, hb1⟩
  have hq1 := hq0.trans (hb1.mono hq0.size)
  have c3 : w1.cell? ⟨w.heap.size, 0, none⟩ = some (.slice va g.length vc) := (hb1.cell (p := ⟨w.heap.size, 0, none⟩) (by simp; try omega)).trans (by simp [go_sem])
  clear hgo
  go_wp2_with fail
  refine (netsOf_any _ _ _ (hv.below hq1 (Nat.le_refl _)) hg).mono ?_
  rintro e w2 ⟨x1, rfl, hx1, hb2⟩
  have hq2 := hq1.trans (hb2.mono hq1.size)
  have hxi := Own.ints (xs := natsI (netsL g)) hx1 (by omega)
  obtain ⟨xa, xc, rfl⟩ := hx1.isSlice
  go_wp2_with fail
  refine (complement_any hxi (by omega) (netsL_lt hg)).mono ?_
  rintro e w3 ⟨x2, rfl, hx2, hb3⟩
  have hq3 := hq2.trans (hb3.mono hq2.size)
  have hxi3 := (hxi.below hb3 (Nat.le_refl _)).low3
  have hyi3 := (Own.ints (xs := natsI (complN (netsL g))) hx2 (by omega)).low3
  obtain ⟨ya, yc, rfl⟩ := hx2.isSlice
  have hadd := addCoTree_any (a := netsL g) (b := complN (netsL g)) (by omega) hcl (netsL_lt hg) hc32 g.length (firstN g.length) (.slice none 0 0) 0 [] w3.heap.size w3 _ _ (by omega) (by omega) (by rw [hnl]; exact hf2) hxi3 hyi3 (Own.nil _ _ _ _) (by omega) (Nat.le_refl _) (by have := hq3.size; omega) (ht.below hq3 (Nat.le_refl _)) (fun b hb => ⟨hb.2, by simp [Value.ownBlock]⟩) (fun b hb => ⟨hb.2, by simp [Value.ownBlock]⟩)
  rw [hnl] at hadd
  rw [hnl]
  clear hnl hpf hcl
  go_wp2_with (go_at_call 65; refine (allOf_any _ _ _ _ h16).mono ?_; rintro e w' ⟨rfl, rfl⟩)
  refine hadd.mono ?_
  rintro e w4 ⟨r, rfl, hr, hk4⟩
  clear hadd
  go_wp2
  go_ret2
  rw [HE.out]
  exact ⟨_, rfl, hk4.below hq3 hq3.size (fun b hb => by simp [Value.ownBlock] at hb)⟩
theorem implCographIn_any {S : Nat → Prop} (v : Value) (g : List (List Int)) (w : World) (ht : Tab w) (hv : SlR S w v g) :
    Calls Tryd.prog 34 #[.agg #[v]] w fun e w' => e = .returned (.bool (cographB g)) ∧ Below w.heap.size w w' := by
  have hq0 : Below w.heap.size w (w.alloc (.cells #[v] 29)) := (Below.refl _ _).alloc (Nat.le_refl _) _
  obtain ⟨va, vc, rfl⟩ := hv.slice
  have hco := implCoTree_any (ht.below hq0 (Nat.le_refl _)) (by simp) (hv.below hq0 (Nat.le_refl _))
  go_enter Tryd.func34, Tryd.ntmps34
  go_wp2_with fail
  refine hco.mono ?_
  rintro e w1 ⟨r, rfl, hb1⟩
  clear hco
  go_wp2
  go_ret
  exact ⟨rfl, hq0.trans (hb1.mono hq0.size)⟩
