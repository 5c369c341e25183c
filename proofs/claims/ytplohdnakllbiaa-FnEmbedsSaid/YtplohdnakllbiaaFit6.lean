/- EmbedsIn, FreeOf, AlikeIn of the reference. -/
import Derived.Test.YtplohdnakllbiaaFit5
namespace Go.Proofs.Ytplohdnakllbiaa
open Go.RowKit
noncomputable def embF (p g : List (List Int)) : Option (List Nat) := if smallB p && gokB g then fitO (netsL g) (netsL p) else none
noncomputable def alikeF (a b : List (List Int)) : Option (List Nat) := if smallB a && (smallB b && decide (a.length = b.length)) then fitO (netsL a) (netsL b) else none
def TwoP (S : Nat → Prop) (f : Option (List Nat)) (w : World) (e : Ending) (w' : World) : Prop := ∃ u, e = .returned (.tuple #[u, .bool f.isSome]) ∧ SlI S w' .i64 u (natsI (f.getD [])) ∧ Below w.heap.size w w'
theorem fitO_embL {p g : List (List Int)} : (fitO (netsL g) (netsL p)).getD [] = embL g p p.length [] := by rw [fitO, embL, netsL_len]
theorem fitO_some {p g : List (List Int)} (hp : 0 < p.length) : (fitO (netsL g) (netsL p)).isSome = decide (0 < (natsI (embL g p p.length [])).length) := by
  rw [natsI_len, ← fitO_embL]
  rcases srch_fit (netsL g) (netsL p) (netsL p).length [] none with ⟨h1, h2⟩ | ⟨h1, r, h2, h3⟩
  · unfold fitO; rw [h2]; rfl
  · have hl : 0 < r.length := by rw [h3, netsL_len]; simp; exact hp
    unfold fitO; rw [h2]; simp [hl]
theorem SlI.empty (S : Nat → Prop) (w : World) (k : IntKind) (a : Option Addr) : SlI S w k (.slice a 0 0) [] := ⟨a, 0, 0, 0, rfl, by simp, fun h => by simp at h, fun i hi => by simp at hi⟩
theorem SlI.emptyN (S : Nat → Prop) (w : World) (k : IntKind) (a : Option Addr) : SlI S w k (.slice a 0 0) (natsI []) := SlI.empty S w k a
theorem GP.nil (n : Nat) : GP n [] := ⟨by simp, by simp⟩
theorem l4Small_any {S : Nat → Prop} {v : Value} {g : List (List Int)} {w : World} (hv : SlR S w v g) : Calls Try.prog 51 #[.agg #[v]] w fun e w' => e = .returned (.bool (smallB g)) ∧ Below w.heap.size w w' := by
  have hb : Below w.heap.size w (w.alloc (.cells #[v] 31)) := (Below.refl _ _).alloc (Nat.le_refl _) _
  obtain ⟨va, vc, rfl⟩ := hv.slice
  have hgo := specGraphOk_any _ _ _ (hv.below hb (Nat.le_refl _))
  have hlen := hv.len
  by_cases hg : gokB g = true
  · rw [hg] at hgo
    have hs : decide (g.length ≤ 8) = smallB g := by simp [smallB, hg]
    have HS := Lib.hid hs; clear hs hg
    go_enter Try.func51, Try.ntmps51
    go_wp2_with fail
    refine hgo.mono ?_
    rintro e w1 ⟨rfl, hb1⟩
    have hq1 := hb.trans (hb1.mono hb.size)
    have c1 : w1.cell? ⟨w.heap.size, 0, none⟩ = some (.slice va g.length vc) := (hb1.cell (p := ⟨w.heap.size, 0, none⟩) (by simp)).trans (by simp [go_sem])
    clear hgo
    go_wp2_with (go_at_call 60; refine (l1Size_any (hv.below hq1 (Nat.le_refl _))).mono ?_; rintro e w2 ⟨rfl, hb2⟩)
    go_ret
    exact ⟨ret_bool (by rw [← HS.out]; first | rfl | (simp; omega)), hq1.trans (hb2.mono hq1.size)⟩
  · have hg' : gokB g = false := by simpa using hg
    rw [hg'] at hgo
    have HS := Lib.hid (show smallB g = false by simp [smallB, hg']); clear hg hg'
    go_enter Try.func51, Try.ntmps51
    go_wp2_with fail
    refine hgo.mono ?_
    rintro e w1 ⟨rfl, hb1⟩
    clear hgo
    go_wp2
    go_ret
    exact ⟨ret_bool HS.out.symm, hb.trans (hb1.mono hb.size)⟩
set_option maxHeartbeats 2000000 in
theorem specEmbedsIn_any {S S' : Nat → Prop} {pv gv : Value} {p g : List (List Int)} {w : World} (hvp : SlR S w pv p) (hvg : SlR S' w gv g) :
    Calls Try.prog 17 #[.agg #[pv], .agg #[gv]] w (TwoP (fun _ => True) (embF p g) w) := by
  have hq0 : Below w.heap.size w ((w.alloc (.cells #[pv] 31)).alloc (.cells #[gv] 31)) := ((Below.refl _ _).alloc (Nat.le_refl _) _).alloc (by simp) _
  obtain ⟨pa, pc, rfl⟩ := hvp.slice
  obtain ⟨ga, gc, rfl⟩ := hvg.slice
  have hs0 := l4Small_any (hvp.below hq0 (Nat.le_refl _))
  by_cases hsm : smallB p = true
  case neg =>
    have hsm' : smallB p = false := by simpa using hsm
    rw [hsm'] at hs0
    have HE := Lib.hid (show embF p g = none by simp [embF, hsm'])
    clear hsm hsm'
    go_enter Try.func17, Try.ntmps17
    go_wp2_with (go_at_call 51; (with_reducible refine hs0.mono ?_); rintro e w1 ⟨rfl, hb1⟩)
    go_ret2
    rw [HE.out]
    have hq1 := hq0.trans (hb1.mono hq0.size)
    exact ⟨_, rfl, SlI.empty _ _ _ _, hq1.alloc hq1.size _⟩
  rw [hsm] at hs0
  have hgp : gokB p = true := by simp only [smallB, Bool.and_eq_true] at hsm; exact hsm.1
  by_cases hgg : gokB g = true
  case neg =>
    have hgg' : gokB g = false := by simpa using hgg
    have HE := Lib.hid (show embF p g = none by simp [embF, hgg'])
    clear hgg hsm hgp
    go_enter Try.func17, Try.ntmps17
    go_wp2_with (first
      | (go_at_call 51; (with_reducible refine hs0.mono ?_); rintro e w1 ⟨rfl, hb1⟩; have hq1 := hq0.trans (hb1.mono hq0.size); have c4 : w1.cell? ⟨w.heap.size + 1, 0, none⟩ = some (.slice ga g.length gc) := (hb1.cell (p := ⟨w.heap.size + 1, 0, none⟩) (by simp)).trans (by simp [go_sem]))
      | (go_at_call 31; (with_reducible refine (specGraphOk_any _ _ _ (hvg.below hq1 (Nat.le_refl _))).mono ?_); rintro e w2 ⟨rfl, hb2⟩; have hq2 := hq1.trans (hb2.mono hq1.size); rw [hgg']))
    go_ret2
    rw [HE.out]
    exact ⟨_, rfl, SlI.empty _ _ _ _, hq2.alloc hq2.size _⟩
  have hGp := gokB_iff.1 hgp
  have hGg := gokB_iff.1 hgg
  have hE : embF p g = fitO (netsL g) (netsL p) := by simp [embF, hsm, hgg]
  have hE2 := fitO_some (g := g) (p := p) (by have := hGp.lo; omega)
  have hE3 := fitO_embL (p := p) (g := g)
  rw [← hE] at hE2 hE3
  have HE2 := Lib.hid hE2; have HE3 := Lib.hid hE3
  clear hE hE2 hE3 hsm hgp
  have hbL : ∀ n : Nat, decide ((0 : Int) < (n : Int)) = decide (0 < n) := fun n => by rw [decide_eq_decide]; omega
  go_enter Try.func17, Try.ntmps17
  go_wp2_with (first
    | (go_at_call 51; (with_reducible refine hs0.mono ?_); rintro e w1 ⟨rfl, hb1⟩; have hq1 := hq0.trans (hb1.mono hq0.size); have c3 : w1.cell? ⟨w.heap.size, 0, none⟩ = some (.slice pa p.length pc) := (hb1.cell (p := ⟨w.heap.size, 0, none⟩) (by simp; omega)).trans (by simp [go_sem]); have c4 : w1.cell? ⟨w.heap.size + 1, 0, none⟩ = some (.slice ga g.length gc) := (hb1.cell (p := ⟨w.heap.size + 1, 0, none⟩) (by simp)).trans (by simp [go_sem]))
    | (go_at_call 31; (with_reducible refine (specGraphOk_any _ _ _ (hvg.below hq1 (Nat.le_refl _))).mono ?_); rintro e w2 ⟨rfl, hb2⟩; have hq2 := hq1.trans (hb2.mono hq1.size); rw [hgg]; have c3 := (hb2.cell (cell_lt c3)).trans c3; have c4 := (hb2.cell (cell_lt c4)).trans c4; have hq3 := hq2.alloc hq2.size (.cells #[] 2)))
  (with_reducible refine (l4Embed_any hGp hGg p.length [] _ _ (hvp.below hq3 (Nat.le_refl _)) (hvg.below hq3 (Nat.le_refl _)) (SlI.emptyN _ _ _ _) (by simp) (GP.nil _)).mono ?_)
  rintro e w4 ⟨r, rfl, hr, hb4⟩
  obtain ⟨ra, rc, rfl⟩ := hr.slice
  go_wp2
  go_ret2
  refine ⟨_, ?_, by rw [HE3.out]; exact hr, hq3.trans (hb4.mono hq3.size)⟩
  rw [HE2.out]
  first | rfl | simp
set_option maxHeartbeats 2000000 in
theorem specFreeOf_any {S S' : Nat → Prop} {pv gv : Value} {p g : List (List Int)} {w : World} (hvg : SlR S' w gv g) (hvp : SlR S w pv p) :
    Calls Try.prog 20 #[.agg #[gv], .agg #[pv]] w fun e w' => e = .returned (.bool (gokB g && (smallB p && !(embF p g).isSome))) ∧ Below w.heap.size w w' := by
  have hq0 : Below w.heap.size w ((w.alloc (.cells #[gv] 31)).alloc (.cells #[pv] 31)) := ((Below.refl _ _).alloc (Nat.le_refl _) _).alloc (by simp) _
  obtain ⟨pa, pc, rfl⟩ := hvp.slice
  obtain ⟨ga, gc, rfl⟩ := hvg.slice
  have he0 := specEmbedsIn_any (hvp.below hq0 (Nat.le_refl _)) (hvg.below hq0 (Nat.le_refl _))
  have HG := fun (w' : World) (hb : Below w.heap.size w w') => specGraphOk_any _ _ _ (hvg.below hb (Nat.le_refl _))
  have HS := fun (w' : World) (hb : Below w.heap.size w w') => l4Small_any (hvp.below hb (Nat.le_refl _))
  have HE := Lib.hid (rfl : (embF p g).isSome = (embF p g).isSome)
  unfold TwoP at he0
  cases hbs : (embF p g).isSome <;> cases hgg : gokB g <;> cases hsm : smallB p
  all_goals
    rw [hbs] at he0
    rw [hgg] at HG
    rw [hsm] at HS
    clear hbs hgg hsm
    go_enter Try.func20, Try.ntmps20
    go_wp2_with fail
    refine he0.mono ?_
    rintro e w1 ⟨u, rfl, hu, hb1⟩
    have hq1 := hq0.trans (hb1.mono hq0.size)
    obtain ⟨ua, uc, rfl⟩ := hu.slice
    have c3 : w1.cell? ⟨w.heap.size, 0, none⟩ = some (.slice ga g.length gc) := (hb1.cell (p := ⟨w.heap.size, 0, none⟩) (by simp; omega)).trans (by simp [go_sem])
    have c4 : w1.cell? ⟨w.heap.size + 1, 0, none⟩ = some (.slice pa p.length pc) := (hb1.cell (p := ⟨w.heap.size + 1, 0, none⟩) (by simp)).trans (by simp [go_sem])
    go_wp2_with fail
    refine (HG _ hq1).mono ?_
    rintro e w2 ⟨rfl, hb2⟩
    have hq2 := hq1.trans (hb2.mono hq1.size)
    have c4 := (hb2.cell (cell_lt c4)).trans c4
    first
    | (go_wp2
       go_ret
       exact ⟨rfl, hq2⟩)
    | (go_wp2_with fail
       refine (HS _ hq2).mono ?_
       rintro e w3 ⟨rfl, hb3⟩
       have hq3 := hq2.trans (hb3.mono hq2.size)
       go_wp2
       go_ret
       exact ⟨rfl, hq3⟩)
end Go.Proofs.Ytplohdnakllbiaa
