/- EmbedsIn, FreeOf, AlikeIn of the reference. -/
import Derived.Test.YtklnjpdpinccoaaFit5
namespace Go.Proofs.Ytklnjpdpinccoaa
open Go.RowKit
noncomputable def embF (p g : List (List Int)) : Option (List Nat) := if smallB p && gokB g then fitO (netsL g) (netsL p) else none
noncomputable def alikeF (a b : List (List Int)) : Option (List Nat) := if smallB a && (smallB b && decide (a.length = b.length)) then fitO (netsL a) (netsL b) else none
def TwoP (S : Nat → Prop) (f : Option (List Nat)) (w : World) (e : Ending) (w' : World) : Prop := ∃ u, e = .returned (.tuple #[u, .bool f.isSome]) ∧ SlI S w' .i64 u (natsI (f.getD [])) ∧ Below w.heap.size w w'
theorem fitO_embL {p g : List (List Int)} : (fitO (netsL g) (netsL p)).getD [] = embL g p p.length [] := by rw [fitO, embL, netsL_len]
theorem fitO_some {p g : List (List Int)} (hp : 0 < p.length) : (fitO (netsL g) (netsL p)).isSome = decide (0 < (natsI (embL g p p.length [])).length) := by
  rw [natsI_len, ← fitO_embL]
  rcases srch_fit (netsL g) (netsL p) (netsL p).length [] none with ⟨h1, h2⟩ | ⟨h1, r, h2, h3⟩
  · unfold fitO; rw [h2]; rfl
  · have hl : 0 < r.length := by rw [h3, netsL_len]; simp; exact hp
    unfold fitO; rw [h2]; simp [hl]
theorem SlI.empty (S : Nat → Prop) (w : World) (k : IntKind) (a : Option Addr) : SlI S w k (.slice a 0 0) [] := ⟨a, 0, 0, 0, rfl, by simp, fun h => by simp at h, fun i hi => by simp at hi⟩
theorem SlI.emptyN (S : Nat → Prop) (w : World) (k : IntKind) (a : Option Addr) : SlI S w k (.slice a 0 0) (natsI []) := SlI.empty S w k a
theorem GP.nil (n : Nat) : GP n [] := ⟨by simp, by simp⟩
theorem l4Small_any {S : Nat → Prop} {v : Value} {g : List (List Int)} {w : World} (hv : SlR S w v g) : Calls Try.prog 37 #[.agg #[v]] w fun e w' => e = .returned (.bool (smallB g)) ∧ Below w.heap.size w w' := by
  have hb : Below w.heap.size w (w.alloc (.cells #[v] 28)) := (Below.refl _ _).alloc (Nat.le_refl _) _
  obtain ⟨va, vc, rfl⟩ := hv.slice
  have hgo := specGraphOk_any _ _ _ (hv.below hb (Nat.le_refl _))
  have hlen := hv.len
  by_cases hg : gokB g = true
  · rw [hg] at hgo
    have hs : decide (g.length ≤ 8) = smallB g := by simp [smallB, hg]
    have HS := Lib.hid hs; clear hs hg
    go_enter Try.func37, Try.ntmps37
    go_wp2_with fail
    refine hgo.mono ?_
    rintro e w1 ⟨rfl, hb1⟩
    have hq1 := hb.trans (hb1.mono hb.size)
    have c1 : w1.cell? ⟨w.heap.size, 0, none⟩ = some (.slice va g.length vc) := (hb1.cell (p := ⟨w.heap.size, 0, none⟩) (by simp)).trans (by simp [go_sem])
    clear hgo
    go_wp2_with (go_at_call 36; refine (l1Size_any (hv.below hq1 (Nat.le_refl _))).mono ?_; rintro e w2 ⟨rfl, hb2⟩)
    go_ret
    exact ⟨ret_bool (by rw [← HS.out]; first | rfl | (simp; omega)), hq1.trans (hb2.mono hq1.size)⟩
  · have hg' : gokB g = false := by simpa using hg
    rw [hg'] at hgo
    have HS := Lib.hid (show smallB g = false by simp [smallB, hg']); clear hg hg'
    go_enter Try.func37, Try.ntmps37
    go_wp2_with fail
    refine hgo.mono ?_
    rintro e w1 ⟨rfl, hb1⟩
    clear hgo
    go_wp2
    go_ret
    exact ⟨ret_bool HS.out.symm, hb.trans (hb1.mono hb.size)⟩
