/- TurnedTree of the program and of the reference. -/
import Derived.Test.YtfccpencgengaaaDoorTurn4
namespace Go.Proofs.YtfccpencgengaaaDoor
open Go.RowKit
theorem OwnP.weak {w : World} {B C B' C' : Nat} {EO EI : TypeId} {u : Value} {t : List PNode} (h : OwnP w B C EO EI u t) (hB : B' ≤ B) (hC : C ≤ C') : OwnP w B' C' EO EI u t := by
  obtain ⟨xs, vs, h1, h2, h3, h4, h5⟩ := h
  exact ⟨xs, vs, h1, h2.weak hB, fun b hb => Nat.lt_of_lt_of_le (h3 b hb) hC, h4, fun i hi hi2 => ⟨(h5 i hi hi2).1.weak hB, fun b hb => ⟨Nat.lt_of_lt_of_le ((h5 i hi hi2).2 b hb).1 hC, ((h5 i hi hi2).2 b hb).2⟩⟩⟩
theorem OwnP.nil (w : World) (B C : Nat) (EO EI : TypeId) : OwnP w B C EO EI (.slice none 0 0) [] := ⟨[], [], CellsP.nil, Own.nil _ _ _ _, fun b hb => by simp [Value.ownBlock] at hb, ApartL.nil, fun i hi => by simp at hi⟩
theorem turn_small {t : List PNode} (h : SmallP t 1048576) : SmallP (t.map turnP) 1048576 := by
  refine ⟨by rw [List.length_map]; exact h.1, fun i hi _ => ?_⟩
  rw [List.length_map] at hi
  rw [List.getElem_map]
  exact h.2 i hi hi
theorem turnL_small {t : List PNode} (h : SmallP t 1048576) : SmallP (turnL t) 1048576 := by
  unfold turnL
  split
  · exact turn_small h
  · exact ⟨by simp, fun i hi => by simp at hi⟩
theorem ownP_kindL {w : World} {B C gb gc j n : Nat} {EO EI : TypeId} {t : List PNode} (h : OwnP w B C EO EI (.slice (some ⟨gb, 0, none⟩) n gc) t) (hn : t.length = n) (hj : j < t.length) (k : Int) : OwnP (w.setCell ⟨gb, j * 3, none⟩ (.int .i64 k)) B C EO EI (.slice (some ⟨gb, 0, none⟩) n gc) (t.set j { t[j] with kind := k }) := by
  subst hn
  exact ownP_kind h hj k
/-- The first k nodes are turned. -/
def mixT (t : List PNode) (k : Nat) : List PNode := (t.take k).map turnP ++ t.drop k
theorem mixT_len {t : List PNode} {k : Nat} (hk : k ≤ t.length) : (mixT t k).length = t.length := by simp [mixT]; omega
theorem mixT_get {t : List PNode} {k : Nat} (hk : k < t.length) : (mixT t k)[k]'(by rw [mixT_len (by omega)]; exact hk) = t[k] := by
  have h1 : ((t.take k).map turnP).length = k := by simp; omega
  unfold mixT
  rw [List.getElem_append_right (by omega), List.getElem_drop]
  congr 1
  omega
theorem mixT_succ {t : List PNode} {k : Nat} (hk : k < t.length) : mixT t (k + 1) = (mixT t k).set k (turnP t[k]) := by
  have h1 : ((t.take k).map turnP).length = k := by simp; omega
  have e2 : t.drop k = t[k] :: t.drop (k + 1) := List.drop_eq_getElem_cons hk
  unfold mixT
  rw [List.take_succ_eq_append_getElem hk, List.map_append, e2]
  generalize (t.take k).map turnP = A at *
  rw [List.set_append_right _ _ (by omega), h1, Nat.sub_self, List.set_cons_zero, List.append_assoc]
  rfl
theorem mixT_same {t : List PNode} {k : Nat} (hk : k < t.length) (h : turnP t[k] = t[k]) : mixT t (k + 1) = mixT t k := by
  rw [mixT_succ hk, h]
  have := mixT_get hk
  conv => lhs; arg 3; rw [← this]
  exact List.set_getElem_self _
theorem mixT_zero (t : List PNode) : mixT t 0 = t := by simp [mixT]
theorem mixT_all (t : List PNode) : mixT t t.length = t.map turnP := by simp [mixT]
set_option maxRecDepth 100000 in
set_option maxHeartbeats 8000000 in
theorem implTurnedTree_any {S : Nat → Prop} {v : Value} {t : List PNode} {w : World} (ht : Tab w) (hv : SlP S w v t) (hs : SmallP t 1048576) :
    Calls Tryd.prog 40 #[v] w fun e w' => ∃ u0, e = .returned u0 ∧ OwnP w' w.heap.size w'.heap.size 106 2 u0 (turnL t) ∧ Below w.heap.size w w' := by
  have hgl : t.length ≤ 1048576 := by have := hs.1; omega
  have hco := implCoTreeOk_any ht hv hgl
  have hcl := fun (W : World) (hb : Below w.heap.size w W) => cloneParts_any (hv.below hb (Nat.le_refl _)) hs
  obtain ⟨va, vc, rfl⟩ := hv.slice
  by_cases hg : coB t = true
  case neg =>
    have hg' : coB t = false := by simpa using hg
    rw [hg'] at hco
    have HE := Lib.hid (show turnL t = [] by simp [turnL, hg'])
    clear hg hg' hcl
    go_enter Tryd.func40, Tryd.ntmps40
    go_wp2_with fail
    refine hco.mono ?_
    rintro e w1 ⟨rfl, hb1⟩
    go_wp2
    go_ret
    exact ⟨_, rfl, by rw [HE.out]; exact OwnP.nil _ _ _ _ _, hb1⟩
  rw [hg] at hco
  have HE := Lib.hid (show turnL t = t.map turnP by simp [turnL, hg])
  have HG := Lib.hid (coB_iff.1 hg)
  clear hg
  go_enter Tryd.func40, Tryd.ntmps40
  go_wp2_with fail
  refine hco.mono ?_
  rintro e w1 ⟨rfl, hb1⟩
  clear hco
  go_wp2_with fail
  refine (hcl _ hb1).mono ?_
  rintro e w2 ⟨gb, gc, rfl, hP2, hb2⟩
  have hq2 := hb1.trans (hb2.mono hb1.size)
  have hP2 := hP2.weak hb1.size (Nat.le_refl _)
  have hgbw : w.heap.size ≤ gb ∧ gb < w2.heap.size := by
    obtain ⟨xs, vs, _, h2, _⟩ := hP2
    exact h2.lt gb rfl
  rw [← mixT_zero t] at hP2
  clear hcl hb2
  go_wp2
  go_loopw [13] (fun i wr => ∃ k : Nat, k ≤ t.length ∧ i = .int .i64 k ∧ OwnP wr w.heap.size w2.heap.size 106 2 (.slice (some ⟨gb, 0, none⟩) t.length gc) (mixT t k) ∧ Below w.heap.size w wr ∧ w2.heap.size ≤ wr.heap.size) (fun i _ => t.length - (intOf i).toNat)
  case atStart => exact ⟨0, Nat.zero_le _, rfl, hP2, hq2, Nat.le_refl _⟩
  case round =>
    clear hP2
    obtain ⟨k, hk, rfl, hP, hq, hsz⟩ := hrel
    by_cases hlt : k < t.length
    case neg =>
      obtain rfl : k = t.length := by omega
      rw [mixT_all] at hP
      go_wp2
      go_ret
      exact ⟨_, rfl, by rw [HE.out]; exact hP.weak (Nat.le_refl _) hsz, hq⟩
    have hlen := mixT_len (show k ≤ t.length by omega)
    have hget := mixT_get hlt
    obtain ⟨xs, vs, hcs, hown, hbC, hap, hkd⟩ := id hP
    rw [hlen] at hown
    obtain ⟨g1, g2, g3⟩ := hcs.2.2 k (by omega) (by rw [hcs.2.1]; omega)
    have hkv := (hkd k (by omega) (by rw [hcs.2.1]; omega)).1
    rw [hget] at g1 g2 hkv
    obtain ⟨fa, fc, hfe⟩ := hkv.isSlice
    rw [hfe] at g3
    have hcell := fun j hj => World.ownsRow.cellAt hown j hj
    have c0 := (hcell (k * 3) (by omega)).trans g1
    have c1 := (hcell (k * 3 + 1) (by omega)).trans g2
    have c2 := (hcell (k * 3 + 2) (by omega)).trans g3
    have f0 := World.ownsRow.frozenAt hown (k * 3)
    have hgw := (hown.lt gb rfl).2
    have hkg := good_kind HG.out hlt
    have hm1 : t[k].kind = 1 → mixT t (k + 1) = mixT t k := fun h => mixT_same hlt (by simp [turnP, h]; rw [← h])
    have hmS : ∀ z : Int, (if t[k].kind = 1 then 1 else 5 - t[k].kind) = z → mixT t (k + 1) = (mixT t k).set k { ((mixT t k)[k]'(by omega)) with kind := z } := fun z h => by rw [mixT_succ hlt, hget, turnP, h]
    clear hcs hown hbC hap hkd g1 g2 g3 hkv hcell hfe
    generalize t[k].kind = kk at *
    generalize t[k].vertex = kx at *
    generalize t[k].kids.length = kl at *
    have hbx : Below wr.heap.size wr (wr.alloc (.cells #[.int .i64 kk, .int .i64 kx, .slice fa kl fc] 106)) := (Below.refl _ _).alloc (Nat.le_refl _) _
    have d0 := (hbx.cell (p := ⟨gb, k * 3, none⟩) hgw).trans c0
    have e0 := (hbx.frozen (p := ⟨gb, k * 3, none⟩) hgw).trans f0
    have hPx := hP.below hbx (Nat.le_refl _)
    have hqx := hq.trans (hbx.mono hq.size)
    clear hget
    rcases hkg with rfl | rfl | rfl
    · have HM := Lib.hid (hm1 rfl)
      clear hm1 hmS
      go_wp2
      go_roundw
      case rel => exact ⟨k + 1, by omega, by go_num, by rw [HM.out]; exact hPx, hqx, by simp; omega⟩
      case measure => simp [intOf]; omega
    · have HM := Lib.hid (hmS 3 rfl)
      clear hm1 hmS
      go_wp2
      go_roundw
      case rel => exact ⟨k + 1, by omega, by go_num, by rw [HM.out]; exact (ownP_kindL hP hlen (j := k) (by omega) 3).below ((Below.refl _ _).alloc (Nat.le_refl _) _) (Nat.le_refl _), (hq.setCell (p := ⟨gb, k * 3, none⟩) hgbw.1 _).alloc (by simp; omega) _, by simp; omega⟩
      case measure => simp [intOf]; omega
    · have HM := Lib.hid (hmS 2 rfl)
      clear hm1 hmS
      go_wp2
      go_roundw
      case rel => exact ⟨k + 1, by omega, by go_num, by rw [HM.out]; exact (ownP_kindL hP hlen (j := k) (by omega) 2).below ((Below.refl _ _).alloc (Nat.le_refl _) _) (Nat.le_refl _), (hq.setCell (p := ⟨gb, k * 3, none⟩) hgbw.1 _).alloc (by simp; omega) _, by simp; omega⟩
      case measure => simp [intOf]; omega
end Go.Proofs.YtfccpencgengaaaDoor
