/- Symmetries of the program and of the reference. -/
import Derived.Test.YtakcoihndobmpaaSym
namespace Go.Proofs.Ytakcoihndobmpaa
open Go.RowKit
variable {σ : Type}
/-- What is called at each complete path, without a result. -/
structure VoidC (P : Program) (N cb B : Nat) (E : TypeId) (v0 : Value) (St : (Nat → Prop) → σ → World → Prop) (ef : List Nat → σ → σ) : Prop where
  call : ∀ (F : Nat → Prop) (s : σ) (pv : Value) (p : List Nat) (w : World), St F s w → Own w B E 1 pv p.length ((natsI p).map (.int .i64)) → (∀ b, pv.ownBlock = some b → ¬ F b) → (∀ b, F b → b < w.heap.size) → B ≤ w.heap.size → p.length ≤ 16 →
    Calls P N #[pv, .pointer (some ⟨cb, 0, none⟩)] w fun e w' => e = .returned v0 ∧ St F (ef p s) w' ∧ Keeps F w w'
  ent : ∀ (args : Array Value) (w : World), (callFunc N args).run P w = .ok (.enter N args) w
  keep : ∀ (F : Nat → Prop) (s : σ) (w w' : World), St F s w → (∀ b, F b → w'.heap[b]? = w.heap[b]?) → St F s w'
/-- With the variable that holds the function value. -/
def AutSt (FE : TypeId) (N2 cb2 cb B : Nat) (St : (Nat → Prop) → σ → World → Prop) (F : Nat → Prop) (s : σ) (w : World) : Prop :=
  ∃ F0 : Nat → Prop, (∀ b, F b ↔ b = cb ∨ F0 b) ∧ ¬ F0 cb ∧ Own w B FE 1 (.slice (some ⟨cb, 0, none⟩) 1 1) 1 [.func (Fn.func N2) #[] #[.pointer (some ⟨cb2, 0, none⟩)]] ∧ St F0 s w
set_option maxHeartbeats 1000000 in
theorem eachAut {St : (Nat → Prop) → σ → World → Prop} {ef : List Nat → σ → σ} {N2 cb2 cb B : Nat} {v0 : Value} (HV : VoidC Try.prog N2 cb2 B 3 v0 St ef) :
    EachC Try.prog 48 cb B 3 (AutSt 48 N2 cb2 cb B St) (fun p s => (ef p s, false)) := by
  refine ⟨?_, fun args w => run_enter Try.func48 (by kernel_rfl) rfl args w, ?_⟩
  · intro F s pv p w hst hown hpF hFl hB hp
    obtain ⟨F0, hF, hn, h1, h2⟩ := hst
    obtain ⟨c1, f1, hB1, hl1⟩ := own_cell h1
    have hcl := HV.call F0 s pv p w h2 hown (fun b hb hf => hpF b hb ((hF b).2 (.inr hf))) (fun b hf => hFl b ((hF b).2 (.inr hf))) hB hp
    obtain ⟨pa, pc, rfl⟩ := hown.isSlice
    go_enter Try.func48, Try.ntmps48
    go_wp2_with fail
    rw [HV.ent, Oper.upon_enter]
    refine hcl.mono ?_
    rintro e w1 ⟨rfl, hs1, hk⟩
    go_wp2
    go_ret
    refine ⟨F, rfl, ⟨F0, hF, hn, h1.keep (fun k hk2 => hk.block k (h1.lt k hk2).2 (fun hf => hn (by (have e : cb = k := by simpa [Value.ownBlock] using hk2); rw [e]; exact hf))), hs1⟩, fun b hb => .inl hb, fun b hb => Nat.lt_of_lt_of_le (hFl b hb) hk.size, ⟨hk.os, hk.tape, hk.output, hk.size, fun b hb hf => hk.block b hb (fun h => hf ((hF b).2 (.inr h)))⟩⟩
  · intro F s w w' hst hk
    obtain ⟨F0, hF, hn, h1, h2⟩ := hst
    exact ⟨F0, hF, hn, h1.keep (fun k hk2 => hk k ((hF k).2 (.inl (by simpa [Value.ownBlock, eq_comm] using hk2)))), HV.keep _ _ _ _ h2 (fun b hb => hk b ((hF b).2 (.inr hb)))⟩
/-- The counter. -/
def CntSt (E : TypeId) (cb B : Nat) (Z : Nat → Prop) (hv : Value) (H : List Nat) (F : Nat → Prop) (s : Int) (w : World) : Prop := (∀ b, F b ↔ b = cb ∨ Z b) ∧ Own w B E 1 (.slice (some ⟨cb, 0, none⟩) 1 1) 1 [.int .i64 s] ∧ ¬ Z cb ∧ SlI Z w .u32 hv (natsI H)
set_option maxHeartbeats 1000000 in
theorem voidSym (cb B : Nat) (Z : Nat → Prop) (hv : Value) (H : List Nat) : VoidC Try.prog 32 cb B 3 (.tuple #[]) (CntSt 2 cb B Z hv H) (fun _ s => IntKind.i64.wrap (s + 1)) := by
  refine ⟨?_, fun args w => run_enter Try.func32 (by kernel_rfl) rfl args w, ?_⟩
  · intro F s pv p w hst hown hpF hFl hB hp
    obtain ⟨hF, h1, hZ, hH⟩ := hst
    obtain ⟨c1, f1, hB1, hl1⟩ := own_cell h1
    have hw : IntKind.i64.wrap (s + 1) = wrap64 (s + 1) := by first | rfl | (rw [IntKind.wrap_i64]; rfl) | (rw [IntKind.wrap_i64, wrap64])
    go_enter Try.func32, Try.ntmps32
    go_wp2
    go_end0
    rw [hw]
    exact ⟨rfl, ⟨hF, own_set h1 _, hZ, hH.keep (fun b hb => Below.heap_setCell _ _ _ _ (by simp; intro e; subst e; exact hZ hb))⟩, ⟨rfl, rfl, rfl, by simp, fun b hb hf => Below.heap_setCell _ _ _ _ (by simp; intro e; exact hf ((hF b).2 (.inl e)))⟩⟩
  · intro F s w w' hst hk
    obtain ⟨hF, h1, hZ, hH⟩ := hst
    exact ⟨hF, h1.keep (fun k hk2 => hk k ((hF k).2 (.inl (by simpa [Value.ownBlock, eq_comm] using hk2)))), hZ, hH.keep (fun b hb => hk b ((hF b).2 (.inr hb)))⟩
set_option maxHeartbeats 2000000 in
theorem automorphisms_any {St : (Nat → Prop) → σ → World → Prop} {ef : List Nat → σ → σ} {N2 cb2 B : Nat} {hv : Value} {H : List Nat} {F : Nat → Prop} {s : σ} {w : World} (HV : VoidC Try.prog N2 cb2 B 3 (.tuple #[]) St ef)
    (HR : ∀ (F : Nat → Prop) (s : σ) (w : World), St F s w → SlI (fun _ => True) w .u32 hv (natsI H)) (hH16 : H.length ≤ 16) (hHl : ∀ m ∈ H, m < 4294967296) (hst : St F s w) (hF : ∀ b, F b → B ≤ b ∧ b < w.heap.size) (hB : B ≤ w.heap.size) :
    Calls Try.prog 30 #[hv, .func (Fn.func N2) #[] #[.pointer (some ⟨cb2, 0, none⟩)]] w fun e w' => ∃ F', e = .returned (.tuple #[]) ∧ St F' (srchF H H (fun p s => (ef p s, false)) H.length [] s).1 w' ∧ Below B w w' := by
  obtain ⟨ha, hc, rfl⟩ := (HR F s w hst).slice
  have hq0 : Below w.heap.size w ((w.alloc (.cells #[.func (Fn.func N2) #[] #[.pointer (some ⟨cb2, 0, none⟩)]] 48)).alloc (.cells #[.slice ha (natsI H).length hc, .slice ha (natsI H).length hc, .slice none 0 0, .int .u32 0, .func (Fn.func 48) #[] #[.pointer (some ⟨w.heap.size, 0, none⟩)]] 63)) := ((Below.refl _ _).alloc (Nat.le_refl _) _).alloc (by simp) _
  have hqB := hq0.mono hB
  have hG : GSt 3 63 (AutSt 48 N2 cb2 w.heap.size B St) ((w.alloc (.cells #[.func (Fn.func N2) #[] #[.pointer (some ⟨cb2, 0, none⟩)]] 48)).alloc (.cells #[.slice ha (natsI H).length hc, .slice ha (natsI H).length hc, .slice none 0 0, .int .u32 0, .func (Fn.func 48) #[] #[.pointer (some ⟨w.heap.size, 0, none⟩)]] 63)) B (w.heap.size + 1)
      (.slice ha (natsI H).length hc) (.slice ha (natsI H).length hc) (.func (Fn.func 48) #[] #[.pointer (some ⟨w.heap.size, 0, none⟩)]) [] s := by
    have hr := World.ownsRow_lit (base := B) (e := 63) (size := 5) (w.alloc (.cells #[.func (Fn.func N2) #[] #[.pointer (some ⟨cb2, 0, none⟩)]] 48)) #[.slice ha (natsI H).length hc, .slice ha (natsI H).length hc, .slice none 0 0, .int .u32 0, .func (Fn.func 48) #[] #[.pointer (some ⟨w.heap.size, 0, none⟩)]] 1 (by simp; omega) (by unfold maxLen; omega) rfl
    have hnF : ¬ F w.heap.size := fun hf => by have := (hF _ hf).2; omega
    have hnF1 : ¬ F (w.heap.size + 1) := fun hf => by have := (hF _ hf).2; omega
    refine ⟨.slice none 0 0, fun b => b = w.heap.size ∨ F b, by simpa [maskN, Own] using hr, Own.nil _ _ _ _, (fun b h => by simp [Value.ownBlock] at h), ?_, (fun b h => ?_), ?_⟩
    · intro h
      rcases h with h | h
      · omega
      · exact hnF1 h
    · rcases h with h | h
      · subst h; simp; omega
      · have := hF b h; simp; omega
    · refine ⟨F, fun b => Iff.rfl, hnF, (own_new w B 48 _ hB).alloc _, HV.keep _ _ _ _ hst (fun b hb => ?_)⟩
      have := (hF b hb).2
      exact hq0.block b this
  have hgr := grow_any (w0 := w) (eachAut HV) (fun F' s' w' _ h => by
    obtain ⟨F0, _, _, _, h0⟩ := h
    exact ⟨HR F0 s' w' h0, HR F0 s' w' h0⟩) hH16 hH16 hHl hHl H.length [] s _ (by simp) ⟨by simp, by simp⟩ hG (by simp; omega) hqB
  clear hG
  go_enter Try.func30, Try.ntmps30
  go_wp2_with fail
  refine hgr.mono ?_
  rintro e w2 ⟨rfl, hG2, hb2⟩
  obtain ⟨pv, F1, -, -, -, -, -, F0, -, -, -, h2⟩ := hG2
  clear hgr
  go_wp2
  go_end0
  exact ⟨F0, rfl, h2, hqB.trans hb2⟩
noncomputable def symI (g : List (List Int)) : Int := if smallB g = true then (cntN (netsL g) (netsL g) g.length [] : Int) else 0
theorem sym_run {g : List (List Int)} (h : smallB g = true) : (srchF (netsL g) (netsL g) symEf (netsL g).length [] 0).1 = symI g := by
  have h8 : g.length ≤ 8 := by simp only [smallB, Bool.and_eq_true, decide_eq_true_eq] at h; exact h.2
  have hp := pow_small h8 h8
  rw [srch_sym _ _ _ _ _ (by omega) (by rw [netsL_len]; omega), symI, if_pos h, netsL_len]
  simp
set_option maxHeartbeats 2000000 in
theorem implSymmetries_any {S : Nat → Prop} {gv : Value} {g : List (List Int)} {w : World} (hvg : SlR S w gv g) :
    Calls Try.prog 11 #[.agg #[gv]] w fun e w' => e = .returned (.int .i64 (symI g)) ∧ Below w.heap.size w w' := by
  have hq0 : Below w.heap.size w (w.alloc (.cells #[gv] 27)) := (Below.refl _ _).alloc (Nat.le_refl _) _
  obtain ⟨ga, gc, rfl⟩ := hvg.slice
  have hs0 := isSmall_any (hvg.below hq0 (Nat.le_refl _))
  by_cases hsm : smallB g = true
  case neg =>
    have hsm' : smallB g = false := by simpa using hsm
    rw [hsm'] at hs0
    have HE := Lib.hid (show symI g = 0 by rw [symI, hsm']; rfl)
    clear hsm hsm'
    go_enter Try.func11, Try.ntmps11
    go_wp2_with fail
    refine hs0.mono ?_
    rintro e w1 ⟨rfl, hb1⟩
    go_wp2
    go_ret
    exact ⟨ret_int HE.out.symm, hq0.trans (hb1.mono hq0.size)⟩
  have HR := Lib.hid (sym_run hsm)
  rw [hsm] at hs0
  have hGg := gokB_iff.1 (show gokB g = true by simp only [smallB, Bool.and_eq_true] at hsm; exact hsm.1)
  have hhg := hGg.hi
  clear hsm
  go_enter Try.func11, Try.ntmps11
  go_wp2_with fail
  refine hs0.mono ?_
  rintro e w1 ⟨rfl, hb1⟩
  have hq1 := hq0.trans (hb1.mono hq0.size)
  have c3 : w1.cell? ⟨w.heap.size, 0, none⟩ = some (.slice ga g.length gc) := (hb1.cell (p := ⟨w.heap.size, 0, none⟩) (by simp)).trans (by simp [go_sem])
  have hb2 : Below w1.heap.size w1 (w1.alloc (.cells #[.int .i64 0] 2)) := (Below.refl _ _).alloc (Nat.le_refl _) _
  have hq2 := hq1.trans (hb2.mono hq1.size)
  have c3b := (hb2.cell (cell_lt c3)).trans c3
  clear hs0
  have hcell := own_new w1 w.heap.size 2 (.int .i64 0) hq1.size
  go_wp2_with fail
  refine (netsOf_any _ _ _ (hvg.below hq2 (Nat.le_refl _)) hGg).mono ?_
  rintro e w3 ⟨x, rfl, hx, hb3⟩
  have hq3 := hq2.trans (hb3.mono hq2.size)
  have hxi := (Own.ints (xs := natsI (netsL g)) hx (by omega)).low
  have hcell3 := hcell.below hb3 (Nat.le_refl _)
  have hxge := hx.ge
  obtain ⟨xa, xc, rfl⟩ := hxi.slice
  have hz : SlI (fun b => (Value.slice xa (natsI (netsL g)).length xc).ownBlock = some b) w3 .u32 (.slice xa (natsI (netsL g)).length xc) (natsI (netsL g)) := Own.ints (xs := natsI (netsL g)) hx (by omega)
  have haut := automorphisms_any (w := w3) (s := (0 : Int)) (F := fun b => b = w1.heap.size ∨ (Value.slice xa (natsI (netsL g)).length xc).ownBlock = some b) (voidSym w1.heap.size w.heap.size (fun b => (Value.slice xa (natsI (netsL g)).length xc).ownBlock = some b) (.slice xa (natsI (netsL g)).length xc) (netsL g))
    (fun F s w h => h.2.2.2.weak (fun _ _ => trivial)) (by rw [netsL_len]; omega) (netsL_lt hGg) ⟨fun _ => Iff.rfl, hcell3, (fun h => by have := hxge _ h; (simp at this) <;> omega), hz⟩ (fun b hb => by
      rcases hb with rfl | hb
      · exact ⟨hq1.size, by have := hb3.size; simp at this; omega⟩
      · have := hx.lt b hb; have h2 := hq2.size; exact ⟨by omega, this.2⟩) hq3.size
  have HR2 := HR.out
  clear hz hxi hcell c3 c3b
  rw [natsI_len, netsL_len] at *
  go_wp2_with fail
  refine haut.mono ?_
  rintro e w4 ⟨F', rfl, hst, hb4⟩
  have hc4 := (own_cell hst.2.1).1
  have hrr : (srchF (netsL g) (netsL g) (fun _ s => (IntKind.i64.wrap (s + 1), false)) g.length [] 0).1 = symI g := by rw [← HR2]; rfl
  rw [hrr] at hc4
  clear haut HR2 hrr
  go_wp2
  go_ret
  exact ⟨rfl, hq3.trans (hb4.mono (Nat.le_refl _))⟩
theorem specSymmetries_any {S : Nat → Prop} {gv : Value} {g : List (List Int)} {w : World} (hvg : SlR S w gv g) :
    Calls Try.prog 9 #[.agg #[gv]] w fun e w' => e = .returned (.int .i64 (symI g)) ∧ Below w.heap.size w w' := by
  have hq0 : Below w.heap.size w (w.alloc (.cells #[gv] 27)) := (Below.refl _ _).alloc (Nat.le_refl _) _
  obtain ⟨ga, gc, rfl⟩ := hvg.slice
  have hs0 := l4Small_any (hvg.below hq0 (Nat.le_refl _))
  by_cases hsm : smallB g = true
  case neg =>
    have hsm' : smallB g = false := by simpa using hsm
    rw [hsm'] at hs0
    have HE := Lib.hid (show symI g = 0 by rw [symI, hsm']; rfl)
    clear hsm hsm'
    go_enter Try.func9, Try.ntmps9
    go_wp2_with fail
    refine hs0.mono ?_
    rintro e w1 ⟨rfl, hb1⟩
    go_wp2
    go_ret
    exact ⟨ret_int HE.out.symm, hq0.trans (hb1.mono hq0.size)⟩
  rw [hsm] at hs0
  have HE := Lib.hid (show symI g = (cntN (netsL g) (netsL g) g.length [] : Int) by rw [symI, if_pos hsm])
  have hGg := gokB_iff.1 (show gokB g = true by simp only [smallB, Bool.and_eq_true] at hsm; exact hsm.1)
  have h8 : g.length ≤ 8 := by simp only [smallB, Bool.and_eq_true, decide_eq_true_eq] at hsm; exact hsm.2
  clear hsm
  go_enter Try.func9, Try.ntmps9
  go_wp2_with fail
  refine hs0.mono ?_
  rintro e w1 ⟨rfl, hb1⟩
  have hq1 := hq0.trans (hb1.mono hq0.size)
  have c3 : w1.cell? ⟨w.heap.size, 0, none⟩ = some (.slice ga g.length gc) := (hb1.cell (p := ⟨w.heap.size, 0, none⟩) (by simp)).trans (by simp [go_sem])
  have hq2 := hq1.alloc hq1.size (.cells #[] 2)
  clear hs0
  go_wp2_with fail
  (with_reducible refine (l4Count_any hGg h8 g.length [] _ _ (hvg.below hq2 (Nat.le_refl _)) (SlI.emptyN _ _ _ _) (by simp) (GP.nil _)).mono ?_)
  rintro e w3 ⟨rfl, hb3⟩
  go_wp2
  go_ret
  exact ⟨ret_int HE.out.symm, hq2.trans (hb3.mono hq2.size)⟩
set_option maxHeartbeats 8000000 in
theorem lawSymmetries_any {S0 : Nat → Prop} (v0 : Value) (g0 : List (List Int)) (w : World) (hv0 : SlR S0 w v0 g0) :
    Calls Try.prog 3 #[.agg #[v0]] w fun e w' => e = .returned (.bool true) ∧ Below w.heap.size w w' := by
  obtain ⟨a0, c0, rfl⟩ := hv0.slice
  have q0 : Below w.heap.size w (w.alloc (.cells #[.slice a0 g0.length c0] 24)) := (Below.refl _ _).alloc (Nat.le_refl _) _
  go_enter Try.func3, Try.ntmps3
  go_wp2_with fail
  refine (szGraph_any _ _ _ _ (hv0.below q0 (Nat.le_refl _)) (by omega) (by omega)).mono ?_
  rintro e w1 ⟨r1, rfl, hr1, hs1, hm1, hb1⟩
  have q1 := q0.trans (hb1.mono q0.size)
  have b0_1 : w1.cell? ⟨w.heap.size, 0, none⟩ = some (.slice a0 g0.length c0) := (hb1.cell (p := ⟨w.heap.size, 0, none⟩) (by simp <;> omega)).trans (by simp [go_sem])
  by_cases hneg1 : r1 < 0
  case pos =>
    go_wp2
    go_ret
    exact ⟨rfl, q1⟩
  have hsm0 : SmallR g0 1048576 := hm1 (by omega)
  go_wp2_with fail
  refine (toGraph_any _ _ _ (hv0.below q1 (Nat.le_refl _)) hsm0).mono ?_
  rintro e w2 ⟨x2, rfl, hy2, hb2⟩
  have q2 := q1.trans (hb2.mono q1.size)
  have b0_2 : w2.cell? ⟨w.heap.size, 0, none⟩ = some (.slice a0 g0.length c0) := (hb2.cell (p := ⟨w.heap.size, 0, none⟩) (cell_lt b0_1)).trans b0_1
  have y2_2 := hy2
  go_wp2_with fail
  refine (specSymmetries_any y2_2).mono ?_
  rintro e w3 ⟨rfl, hb3⟩
  have q3 := q2.trans (hb3.mono q2.size)
  have b0_3 : w3.cell? ⟨w.heap.size, 0, none⟩ = some (.slice a0 g0.length c0) := (hb3.cell (p := ⟨w.heap.size, 0, none⟩) (cell_lt b0_2)).trans b0_2
  have y2_3 := y2_2.below hb3 (Nat.le_refl _)
  go_wp2_with fail
  refine (toGraph_any _ _ _ (hv0.below q3 (Nat.le_refl _)) hsm0).mono ?_
  rintro e w4 ⟨x4, rfl, hy4, hb4⟩
  have q4 := q3.trans (hb4.mono q3.size)
  have b0_4 : w4.cell? ⟨w.heap.size, 0, none⟩ = some (.slice a0 g0.length c0) := (hb4.cell (p := ⟨w.heap.size, 0, none⟩) (cell_lt b0_3)).trans b0_3
  have y2_4 := y2_3.below hb4 (Nat.le_refl _)
  have y4_4 := hy4
  obtain ⟨xa5, xc5, rfl⟩ := y4_4.slice
  have hb5 : Below w4.heap.size w4 (w4.alloc (.cells #[.slice xa5 g0.length xc5] 27)) := (Below.refl _ _).alloc (Nat.le_refl _) _
  have q5 := q4.trans (hb5.mono q4.size)
  have b0_5 := (hb5.cell (p := ⟨w.heap.size, 0, none⟩) (cell_lt b0_4)).trans b0_4
  have y2_5 := y2_4.below hb5 (Nat.le_refl _)
  have y4_5 := y4_4.below hb5 (Nat.le_refl _)
  go_wp2_with fail
  refine (implSymmetries_any y4_5).mono ?_
  rintro e w6 ⟨rfl, hb6⟩
  have q6 := q5.trans (hb6.mono q5.size)
  have b0_6 : w6.cell? ⟨w.heap.size, 0, none⟩ = some (.slice a0 g0.length c0) := (hb6.cell (p := ⟨w.heap.size, 0, none⟩) (by have := cell_lt b0_5; simp at this ⊢; omega)).trans b0_5
  have l5_6 : w6.cell? ⟨w4.heap.size, 0, none⟩ = some (.slice xa5 g0.length xc5) := (hb6.cell (p := ⟨w4.heap.size, 0, none⟩) (by simp)).trans (by simp [go_sem])
  have y2_6 := y2_5.below hb6 (Nat.le_refl _)
  have y4_6 := y4_5.below hb6 (Nat.le_refl _)
  go_wp2
  have _tt : True := trivial
  refine wp_region_held_drew (S := (fun w' => w'.cell? ⟨w.heap.size, 0, none⟩ = some (.slice a0 g0.length c0) ∧ w'.cell? ⟨w4.heap.size, 0, none⟩ = some (.slice xa5 g0.length xc5))) (by kernel_rfl) ?_ (fun hHeld => ?_)
  · first | exact ⟨‹_›, ‹_›⟩ | assumption | (simp [*, go_sem])
  refine wpAnyH_take (i := 0) (v := ?v1) (by simp only [List.getElem?_toArray, List.getElem?_cons_zero]; exact rfl) (by kernel_rfl) (by kernel_rfl) (by kernel_rfl) (by intro _ _ _ h; exact h) (Or.inl ⟨by rfl, ?y1⟩) hHeld ?_
  case y1 => (intro w hSw; (try dsimp only at hSw); go_simp; try (with_reducible rfl))
  try simp only [Act.put, List.setIfInBounds_toArray, List.set_cons_zero, List.set_cons_succ]
  refine wpAnyH_take (i := 1) (v := ?v2) (by simp only [List.getElem?_toArray, List.getElem?_cons_succ, List.getElem?_cons_zero]; exact rfl) (by kernel_rfl) (by kernel_rfl) (by kernel_rfl) (by intro _ _ _ h; exact h) (Or.inl ⟨by rfl, ?y2⟩) hHeld ?_
  case y2 => (intro w hSw; (try dsimp only at hSw); go_simp; try (with_reducible rfl))
  try simp only [Act.put, List.setIfInBounds_toArray, List.set_cons_zero, List.set_cons_succ]
  refine wpAnyH_ready (rs := [2]) (by kernel_rfl) (by simp) ?_
  refine AllReadyH.cons (by simp only [List.getElem?_toArray, List.getElem?_cons_succ, List.getElem?_cons_zero]; exact rfl) (fun K hK => ?_) AllReadyH.nil
  go_simp
  have q6d := q6.drew
  refine (toGraph_any _ _ _ (hv0.below q6d (Nat.le_refl _)) hsm0).mono ?_
  rintro e w7 ⟨x7, rfl, hy7, hb7⟩
  have hb7e : Below w6.heap.size w6 w7 := ⟨hb7.os, hb7.tape, hb7.output, hb7.size, hb7.block⟩
  have q7 := q6.trans (hb7e.mono q6.size)
  have b0_7 : w7.cell? ⟨w.heap.size, 0, none⟩ = some (.slice a0 g0.length c0) := (hb7e.cell (p := ⟨w.heap.size, 0, none⟩) (cell_lt b0_6)).trans b0_6
  have l5_7 : w7.cell? ⟨w4.heap.size, 0, none⟩ = some (.slice xa5 g0.length xc5) := (hb7e.cell (p := ⟨w4.heap.size, 0, none⟩) (cell_lt l5_6)).trans l5_6
  have y2_7 := y2_6.below hb7e (Nat.le_refl _)
  have y4_7 := y4_6.below hb7e (Nat.le_refl _)
  have y7_7 := hy7
  try dsimp only
  refine hK.out _ _ ?h4 (fun hHeld => ?_)
  case h4 => first | exact ⟨‹_›, ‹_›⟩ | assumption | (simp [*, go_sem])
  clear hK K
  try simp only [Act.put, List.setIfInBounds_toArray, List.set_cons_zero, List.set_cons_succ]
  refine wpAnyH_ready (rs := [3]) (by kernel_rfl) (by simp) ?_
  refine AllReadyH.cons (by simp only [List.getElem?_toArray, List.getElem?_cons_succ, List.getElem?_cons_zero]; exact rfl) (fun K hK => ?_) AllReadyH.nil
  go_simp
  refine (eqGraph_any _ _ _ _ _ y4_7 y7_7).mono ?_
  rintro e w8 ⟨rfl, hb8⟩
  have q8 := q7.trans (hb8.mono q7.size)
  have b0_8 : w8.cell? ⟨w.heap.size, 0, none⟩ = some (.slice a0 g0.length c0) := (hb8.cell (p := ⟨w.heap.size, 0, none⟩) (cell_lt b0_7)).trans b0_7
  have l5_8 : w8.cell? ⟨w4.heap.size, 0, none⟩ = some (.slice xa5 g0.length xc5) := (hb8.cell (p := ⟨w4.heap.size, 0, none⟩) (cell_lt l5_7)).trans l5_7
  have y2_8 := y2_7.below hb8 (Nat.le_refl _)
  have y4_8 := y4_7.below hb8 (Nat.le_refl _)
  have y7_8 := y7_7.below hb8 (Nat.le_refl _)
  try dsimp only
  refine hK.out _ _ ?h6 (fun hHeld => ?_)
  case h6 => first | exact ⟨‹_›, ‹_›⟩ | assumption | (simp [*, go_sem])
  clear hK K
  try simp only [Act.put, List.setIfInBounds_toArray, List.set_cons_zero, List.set_cons_succ]
  refine wpAnyH_take (i := 4) (v := ?v7) (by simp only [List.getElem?_toArray, List.getElem?_cons_succ, List.getElem?_cons_zero]; exact rfl) (by kernel_rfl) (by kernel_rfl) (by kernel_rfl) (by intro _ _ _ h; exact h) (Or.inl ⟨by rfl, ?y7⟩) hHeld ?_
  case y7 => (intro w hSw; (try dsimp only at hSw); go_simp; try (with_reducible rfl))
  try simp only [Act.put, List.setIfInBounds_toArray, List.set_cons_zero, List.set_cons_succ]
  refine wpAnyH_done (by kernel_rfl) ?_ _
  go_wp2
  go_ret
  exact ⟨rfl, q8⟩
end Go.Proofs.Ytakcoihndobmpaa
