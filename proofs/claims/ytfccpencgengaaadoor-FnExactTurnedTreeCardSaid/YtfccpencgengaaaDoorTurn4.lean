/- TurnedTree: trees that grow and turn. -/
import Derived.Test.YtfccpencgengaaaDoorTurn3
import Derived.Test.YtfccpencgengaaaDoorCoTree
import Derived.Test.YtfccpencgengaaaDoorInto
namespace Go.Proofs.YtfccpencgengaaaDoor
open Go.RowKit
theorem ownP_snoc {w w' : World} {B C : Nat} {EO EI : TypeId} {u u' : Value} {t : List PNode} {p : PNode} {v : Value} {xs vs : List Value} (hcs : CellsP t xs vs) (hC : C ≤ w.heap.size) (hbC : ∀ b, u.ownBlock = some b → b < C) (hap : ApartL vs) (hkd : KidsP w B C EI u t vs)
    (hown : Own w' B EO 3 u' (t.length + 1) (xs ++ [.int .i64 p.kind, .int .i64 p.vertex, v])) (hv : Own w B EI 1 v p.kids.length (p.kids.map (.int .i64))) (hvC : ∀ b, v.ownBlock = some b → C ≤ b) (hk : KeptBut w w' u.ownBlock) (hm : u'.ownBlock = u.ownBlock ∨ ∃ b, u'.ownBlock = some b ∧ w.heap.size ≤ b) :
    OwnP w' B w'.heap.size EO EI u' (t ++ [p]) := by
  have hu' : ∀ b, b < w.heap.size → u.ownBlock ≠ some b → u'.ownBlock ≠ some b := fun b hb hne e => by
    rcases hm with h | ⟨c, h, hc⟩
    · rw [h] at e; exact hne e
    · rw [h] at e; simp at e; omega
  refine ⟨_, _, hcs.snoc p v, by rw [List.length_append, List.length_singleton]; exact hown, fun b hb => (hown.lt b hb).2, hap.snoc (N := C) (fun i hi b hb => ((hkd i (by have := hcs.2.1; omega) hi).2 b hb).1) hvC, fun i hi hi2 => ?_⟩
  have hvl := hcs.2.1
  by_cases e : i < t.length
  · rw [List.getElem_append_left e, List.getElem_append_left (by omega)]
    obtain ⟨h1, h2⟩ := hkd i e (by omega)
    exact ⟨h1.kept hk (fun b hb he => (h2 b hb).2 he), fun b hb => ⟨Nat.lt_of_lt_of_le (h1.lt b hb).2 hk.2.2.2.1, hu' b (h1.lt b hb).2 (h2 b hb).2⟩⟩
  · have e2 : i = t.length := by simp at hi; omega
    subst e2
    rw [List.getElem_append_right (by omega), List.getElem_append_right (by omega)]
    have a1 : t.length - vs.length = 0 := by omega
    simp only [Nat.sub_self, a1, List.getElem_cons_zero]
    have hne : ∀ b, v.ownBlock = some b → u.ownBlock ≠ some b := fun b hb he => by have h1 := hbC b he; have h2 := hvC b hb; omega
    exact ⟨hv.kept hk (fun b hb he => hne b hb he), fun b hb => ⟨Nat.lt_of_lt_of_le (hv.lt b hb).2 hk.2.2.2.1, hu' b (hv.lt b hb).2 (hne b hb)⟩⟩
theorem ownP_kind {w : World} {B C gb gc j : Nat} {EO EI : TypeId} {t : List PNode} (h : OwnP w B C EO EI (.slice (some ⟨gb, 0, none⟩) t.length gc) t) (hj : j < t.length) (k : Int) : OwnP (w.setCell ⟨gb, j * 3, none⟩ (.int .i64 k)) B C EO EI (.slice (some ⟨gb, 0, none⟩) t.length gc) (t.set j { t[j] with kind := k }) := by
  obtain ⟨xs, vs, h1, h2, h3, h4, h5⟩ := h
  refine ⟨_, vs, h1.kind hj k, by rw [List.length_set]; exact h2.stored (j * 3) (.int .i64 k), h3, h4, fun i hi hi2 => ?_⟩
  rw [List.length_set] at hi
  obtain ⟨k1, k2⟩ := h5 i hi hi2
  have e : ((t.set j { t[j] with kind := k })[i]'(by rw [List.length_set]; exact hi)).kids = t[i].kids := by
    by_cases e : j = i
    · subst e; simp
    · rw [List.getElem_set_ne e]
  rw [e]
  exact ⟨k1.keep fun b hb => Below.heap_setCell _ _ _ _ (by intro e2; subst e2; exact (k2 _ hb).2 rfl), k2⟩
/-- A node with union and join exchanged. -/
def turnP (p : PNode) : PNode := { p with kind := if p.kind = 1 then 1 else 5 - p.kind }
theorem good_kind {t : List PNode} (h : CoGood t) {i : Nat} (hi : i < t.length) : t[i].kind = 1 ∨ t[i].kind = 2 ∨ t[i].kind = 3 := by
  have hnd := nd_get hi
  have h4 := (h.2 i hi).1
  have h5 := (h.1.ok i hi).1
  rw [hnd] at h4
  unfold SOk at h5
  rw [hnd] at h5
  rcases h5 with h6 | h6
  · exact .inl h6.1
  · omega
noncomputable def turnL (t : List PNode) : List PNode := if coB t = true then t.map turnP else []
theorem nilI64 : ∀ (w : World) (a : Option Addr) (n c n' c' : Nat), (binOp .eql 41 (.slice a n c) (.slice none n' c')).run Tryd.prog w = .ok (.bool a.isNone) w := fun w a n c n' c' => Lib.run_eql_slice_nil w _ _ a n c n' c' Tryd.underlying41
set_option maxHeartbeats 1000000 in
theorem cloneJ_any {S : Nat → Prop} {v : Value} {xs : List Int} {w : World} (hv : SlI S w .i64 v xs) (hn : xs.length ≤ 1048576) :
    Calls Tryd.prog 112 #[v] w fun e w' => ∃ u, e = .returned u ∧ Own w' w.heap.size 2 1 u xs.length (xs.map (.int .i64)) ∧ Below w.heap.size w w' := by
  have q := nilI64
  have hq0 : Below w.heap.size w (w.alloc (.cells #[] 2)) := (Below.refl _ _).alloc (Nat.le_refl _) _
  obtain ⟨a, b, off, cap, rfl, hl, ha, hc⟩ := hv.below hq0 (Nat.le_refl _)
  have hown : Own (w.alloc (.cells #[] 2)) w.heap.size 2 1 (.slice (some ⟨w.heap.size, 0, none⟩) 0 0) 0 [] := World.ownsRow_lit (base := w.heap.size) (e := 2) (size := 1) w #[] 0 (Nat.le_refl _) (by unfold maxLen; omega) rfl
  by_cases h0 : xs.length = 0
  · have hx : xs = [] := List.eq_nil_of_length_eq_zero h0
    subst hx
    clear ha
    cases a with
    | none =>
      go_enter Tryd.func112, Tryd.ntmps112
      go_wp2
      go_ret
      exact ⟨_, rfl, Own.nil _ _ _ _, Below.refl _ _⟩
    | some g =>
      go_enter Tryd.func112, Tryd.ntmps112
      go_wp2_with (at_builtin; refine wpList_append0 elI64 rfl _ _ rfl hown rfl rfl ?_)
      go_ret
      exact ⟨_, rfl, hown, hq0⟩
  · obtain ⟨rfl, _⟩ := ha (by omega)
    go_enter Tryd.func112, Tryd.ntmps112
    go_wp2_with (at_builtin; refine wpList_append elI64 rfl _ _ rfl hown rfl (news := xs.map (.int .i64)) rfl (by simp) hc.news ints_one (by omega) (by simp) ?_; intro v' w1 hown1 hgr hmv; have hq1 := (KeptBut.of_grown hgr).below hq0 (by simp) hown.ge)
    go_ret
    refine ⟨_, rfl, ?_, hq1⟩
    simpa using hown1
set_option maxRecDepth 100000 in
set_option maxHeartbeats 8000000 in
theorem cloneParts_any {S : Nat → Prop} {v : Value} {t : List PNode} {w : World} (hv : SlP S w v t) (hs : SmallP t 1048576) :
    Calls Tryd.prog 86 #[v] w fun e w' => ∃ gb gc, e = .returned (.slice (some ⟨gb, 0, none⟩) t.length gc) ∧ OwnP w' w.heap.size w'.heap.size 106 2 (.slice (some ⟨gb, 0, none⟩) t.length gc) t ∧ Below w.heap.size w w' := by
  have hgl : t.length ≤ 1048576 := by have := hs.1; omega
  obtain ⟨a, b, off, cap, f, rfl, hl, ha, hc0⟩ := hv
  have hq0 : Below w.heap.size w (w.alloc (.cells #[] 106)) := (Below.refl _ _).alloc (Nat.le_refl _) _
  have ho0 : Own (w.alloc (.cells #[] 106)) w.heap.size 106 3 (.slice (some ⟨w.heap.size, 0, none⟩) 0 0) 0 [] := by
    have := World.ownsRow_lit (base := w.heap.size) (e := 106) (size := 3) w #[] 0 (Nat.le_refl _) (by unfold maxLen; omega) rfl
    simpa [Own] using this
  have hP0 : OwnP (w.alloc (.cells #[] 106)) w.heap.size (w.alloc (.cells #[] 106)).heap.size 106 2 (.slice (some ⟨w.heap.size, 0, none⟩) 0 0) (t.take 0) := ⟨[], [], CellsP.nil, ho0, fun b hb => (ho0.lt b hb).2, ApartL.nil, fun i hi => by simp at hi⟩
  have HC := Lib.hid hc0
  clear hc0 ho0
  go_enter Tryd.func86, Tryd.ntmps86
  go_wp2
  go_loopw [3, 9] (fun o i wr => ∃ (k gb gc : Nat), k ≤ t.length ∧ i = .int .i64 k ∧ o = .slice (some ⟨gb, 0, none⟩) k gc ∧ OwnP wr w.heap.size wr.heap.size 106 2 (.slice (some ⟨gb, 0, none⟩) k gc) (t.take k) ∧ Below w.heap.size w wr) (fun _ i _ => t.length - (intOf i).toNat)
  case atStart => exact ⟨0, w.heap.size, 0, Nat.zero_le _, rfl, rfl, hP0, hq0⟩
  case round =>
    clear hP0 hq0
    obtain ⟨k, gb, gc, hk, rfl, rfl, hP, hq⟩ := hrel
    by_cases hlt : k < t.length
    case neg =>
      obtain rfl : k = t.length := by omega
      rw [List.take_length] at hP
      go_wp2
      go_ret
      exact ⟨_, _, rfl, hP, hq⟩
    obtain ⟨c1, c2, c3, hrow⟩ := (HC.out.below hq (Nat.le_refl _)) k hlt
    obtain ⟨rfl, -⟩ := ha (by omega)
    have hsm : t[k].kids.length ≤ 1048576 := by have := hs.2 k hlt hlt; omega
    have HTK := Lib.hid (show t.take (k + 1) = t.take k ++ [t[k]] from List.take_succ_eq_append_getElem hlt)
    have htl : (t.take k).length = k := by simp; omega
    have HTL := Lib.hid htl
    obtain ⟨fa, fc, hfe⟩ := hrow.slice
    rw [hfe] at c3 hrow
    generalize t[k] = p at *
    obtain ⟨pk, px, pl⟩ := p
    simp only at c1 c2 c3 hrow hsm hfe
    have hbx : Below wr.heap.size wr (wr.alloc (.cells #[.int .i64 pk, .int .i64 px, .slice fa pl.length fc] 106)) := (Below.refl _ _).alloc (Nat.le_refl _) _
    have hcl := cloneJ_any (hrow.below hbx (Nat.le_refl _)) hsm
    clear htl hfe
    go_wp2_with fail
    refine hcl.mono ?_
    rintro e w3 ⟨u3, rfl, hu3, hb3⟩
    obtain ⟨ua, uc, rfl⟩ := hu3.isSlice
    have b0 : w3.cell? ⟨wr.heap.size, 0, none⟩ = some (.int .i64 pk) := (hb3.cell (p := ⟨wr.heap.size, 0, none⟩) (by simp)).trans (by simp [go_sem])
    have b1 : w3.cell? ⟨wr.heap.size, 1, none⟩ = some (.int .i64 px) := (hb3.cell (p := ⟨wr.heap.size, 1, none⟩) (by simp)).trans (by simp [go_sem])
    have b2 : w3.cell? ⟨wr.heap.size, 2, none⟩ = some (.slice fa pl.length fc) := (hb3.cell (p := ⟨wr.heap.size, 2, none⟩) (by simp)).trans (by simp [go_sem])
    have f2 : w3.frozen? ⟨wr.heap.size, 2, none⟩ = false := (hb3.frozen (p := ⟨wr.heap.size, 2, none⟩) (by simp)).trans (by simp [go_sem])
    have hb03 := hbx.trans (hb3.mono hbx.size)
    have hge3 : ∀ b, (Value.slice ua pl.length uc).ownBlock = some b → wr.heap.size + 1 ≤ b := fun b hb => by have := hu3.ge b hb; simpa using this
    have hb34 : Below wr.heap.size wr (w3.setCell ⟨wr.heap.size, 2, none⟩ (.slice ua pl.length uc)) := hb03.setCell (by simp) _
    obtain ⟨xs, vs, hcs, hown, hbC, hap, hkd⟩ := hP
    have hown4 := hown.below hb34 (Nat.le_refl _)
    have hkd4 : KidsP (w3.setCell ⟨wr.heap.size, 2, none⟩ (.slice ua pl.length uc)) w.heap.size wr.heap.size 2 (.slice (some ⟨gb, 0, none⟩) k gc) (t.take k) vs := fun i hi hi2 => ⟨(hkd i hi hi2).1.below hb34 (Nat.le_refl _), (hkd i hi hi2).2⟩
    have hu4 : Own (w3.setCell ⟨wr.heap.size, 2, none⟩ (.slice ua pl.length uc)) w.heap.size 2 1 (.slice ua pl.length uc) pl.length (pl.map (.int .i64)) := (hu3.keep (fun b hb => Below.heap_setCell _ _ _ _ (by have := hge3 b hb; simp; omega))).weak (by have := hq.size; simp; omega)
    have hs4 := hb34.size
    have hq4 := hq.trans (hb34.mono hq.size)
    rw [HTL.out] at hown4
    clear hcl hkd hown hu3
    go_wp2_with (at_builtin; refine wpList_append1m elParts rfl _ _ rfl hown4 rfl (by first | rfl | simp) rfl rfl (by simp [Value.oneCell']) (by omega) (by have := hq4.size; omega) ?_; intro o5 w5 hown5 hkept hmv)
    have hP5 : OwnP w5 w.heap.size w5.heap.size 106 2 o5 (t.take (k + 1)) := by
      rw [HTK.out]
      refine ownP_snoc (p := ⟨pk, px, pl⟩) (v := .slice ua pl.length uc) hcs hs4 hbC hap hkd4 (by rw [HTL.out]; simpa using hown5) hu4 (fun b hb => by have := hge3 b hb; omega) hkept ?_
      rcases hmv with h | h
      · exact .inl h
      · exact .inr ⟨_, h, by simp⟩
    have hq5 := hkept.below hq4 hq4.size (fun b hb => by have := (hown4.lt b hb).1; omega)
    obtain ⟨g5, c5, rfl⟩ := own_some hown5 (by omega)
    go_roundw
    case rel => exact ⟨k + 1, g5, c5, by omega, by go_num, rfl, hP5, hq5⟩
    case measure => simp [intOf]; omega
end Go.Proofs.YtfccpencgengaaaDoor
