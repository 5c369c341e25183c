/- Symmetries of the program and of the reference. -/
import Derived.Test.YtplohdnakllbiaaSym
namespace Go.Proofs.Ytplohdnakllbiaa
open Go.RowKit
variable {σ : Type}
/-- What is called at each complete path, without a result. -/
structure VoidC (P : Program) (N cb B : Nat) (E : TypeId) (v0 : Value) (St : (Nat → Prop) → σ → World → Prop) (ef : List Nat → σ → σ) (K : List Nat → Prop := fun _ => True) : Prop where
  call : ∀ (F : Nat → Prop) (s : σ) (pv : Value) (p : List Nat) (w : World), St F s w → Own w B E 1 pv p.length ((natsI p).map (.int .i64)) → (∀ b, pv.ownBlock = some b → ¬ F b) → (∀ b, F b → b < w.heap.size) → B ≤ w.heap.size → p.length ≤ 16 → K p →
    Calls P N #[pv, .pointer (some ⟨cb, 0, none⟩)] w fun e w' => e = .returned v0 ∧ St F (ef p s) w' ∧ Keeps F w w'
  ent : ∀ (args : Array Value) (w : World), (callFunc N args).run P w = .ok (.enter N args) w
  keep : ∀ (F : Nat → Prop) (s : σ) (w w' : World), St F s w → (∀ b, F b → w'.heap[b]? = w.heap[b]?) → St F s w'
/-- With the variable that holds the function value. -/
def AutSt (FE : TypeId) (N2 cb2 cb B : Nat) (St : (Nat → Prop) → σ → World → Prop) (F : Nat → Prop) (s : σ) (w : World) : Prop :=
  ∃ F0 : Nat → Prop, (∀ b, F b ↔ b = cb ∨ F0 b) ∧ ¬ F0 cb ∧ Own w B FE 1 (.slice (some ⟨cb, 0, none⟩) 1 1) 1 [.func (Fn.func N2) #[] #[.pointer (some ⟨cb2, 0, none⟩)]] ∧ St F0 s w
set_option maxRecDepth 100000 in
set_option maxHeartbeats 1000000 in
theorem eachAut {St : (Nat → Prop) → σ → World → Prop} {ef : List Nat → σ → σ} {N2 cb2 cb B : Nat} {v0 : Value} {K : List Nat → Prop} (HV : VoidC Try.prog N2 cb2 B 3 v0 St ef K) :
    EachC Try.prog 83 cb B 3 (AutSt 82 N2 cb2 cb B St) (fun p s => (ef p s, false)) K := by
  refine ⟨?_, fun args w => run_enter Try.func83 (by kernel_rfl) rfl args w, ?_⟩
  · intro F s pv p w hst hown hpF hFl hB hp hKp
    obtain ⟨F0, hF, hn, h1, h2⟩ := hst
    obtain ⟨c1, f1, hB1, hl1⟩ := own_cell h1
    have hcl := HV.call F0 s pv p w h2 hown (fun b hb hf => hpF b hb ((hF b).2 (.inr hf))) (fun b hf => hFl b ((hF b).2 (.inr hf))) hB hp hKp
    obtain ⟨pa, pc, rfl⟩ := hown.isSlice
    go_enter Try.func83, Try.ntmps83
    go_wp2_with fail
    rw [HV.ent, Oper.upon_enter]
    refine hcl.mono ?_
    rintro e w1 ⟨rfl, hs1, hk⟩
    go_wp2
    go_ret
    refine ⟨F, rfl, ⟨F0, hF, hn, h1.keep (fun k hk2 => hk.block k (h1.lt k hk2).2 (fun hf => hn (by (have e : cb = k := by simpa [Value.ownBlock] using hk2); rw [e]; exact hf))), hs1⟩, fun b hb => .inl hb, fun b hb => Nat.lt_of_lt_of_le (hFl b hb) hk.size, ⟨hk.os, hk.tape, hk.output, hk.size, fun b hb hf => hk.block b hb (fun h => hf ((hF b).2 (.inr h)))⟩⟩
  · intro F s w w' hst hk
    obtain ⟨F0, hF, hn, h1, h2⟩ := hst
    exact ⟨F0, hF, hn, h1.keep (fun k hk2 => hk k ((hF k).2 (.inl (by simpa [Value.ownBlock, eq_comm] using hk2)))), HV.keep _ _ _ _ h2 (fun b hb => hk b ((hF b).2 (.inr hb)))⟩
/-- The counter. -/
def CntSt (E : TypeId) (cb B : Nat) (Z : Nat → Prop) (hv : Value) (H : List Nat) (F : Nat → Prop) (s : Int) (w : World) : Prop := (∀ b, F b ↔ b = cb ∨ Z b) ∧ Own w B E 1 (.slice (some ⟨cb, 0, none⟩) 1 1) 1 [.int .i64 s] ∧ ¬ Z cb ∧ SlI Z w .u32 hv (natsI H)
set_option maxRecDepth 100000 in
set_option maxHeartbeats 1000000 in
theorem voidSym (cb B : Nat) (Z : Nat → Prop) (hv : Value) (H : List Nat) : VoidC Try.prog 57 cb B 3 (.tuple #[]) (CntSt 2 cb B Z hv H) (fun _ s => IntKind.i64.wrap (s + 1)) := by
  refine ⟨?_, fun args w => run_enter Try.func57 (by kernel_rfl) rfl args w, ?_⟩
  · intro F s pv p w hst hown hpF hFl hB hp _
    obtain ⟨hF, h1, hZ, hH⟩ := hst
    obtain ⟨c1, f1, hB1, hl1⟩ := own_cell h1
    have hw : IntKind.i64.wrap (s + 1) = wrap64 (s + 1) := by first | rfl | (rw [IntKind.wrap_i64]; rfl) | (rw [IntKind.wrap_i64, wrap64])
    go_enter Try.func57, Try.ntmps57
    go_wp2
    go_end0
    rw [hw]
    exact ⟨rfl, ⟨hF, own_set h1 _, hZ, hH.keep (fun b hb => Below.heap_setCell _ _ _ _ (by simp; intro e; subst e; exact hZ hb))⟩, ⟨rfl, rfl, rfl, by simp, fun b hb hf => Below.heap_setCell _ _ _ _ (by simp; intro e; exact hf ((hF b).2 (.inl e)))⟩⟩
  · intro F s w w' hst hk
    obtain ⟨hF, h1, hZ, hH⟩ := hst
    exact ⟨hF, h1.keep (fun k hk2 => hk k ((hF k).2 (.inl (by simpa [Value.ownBlock, eq_comm] using hk2)))), hZ, hH.keep (fun b hb => hk b ((hF b).2 (.inr hb)))⟩
set_option maxRecDepth 100000 in
set_option maxHeartbeats 2000000 in
theorem automorphisms_any {St : (Nat → Prop) → σ → World → Prop} {ef : List Nat → σ → σ} {N2 cb2 B : Nat} {hv : Value} {H : List Nat} {F : Nat → Prop} {s : σ} {w : World} {K : List Nat → Prop} (HV : VoidC Try.prog N2 cb2 B 3 (.tuple #[]) St ef K)
    (HR : ∀ (F : Nat → Prop) (s : σ) (w : World), St F s w → SlI (fun _ => True) w .u32 hv (natsI H)) (hH16 : H.length ≤ 16) (hHl : ∀ m ∈ H, m < 4294967296) (hst : St F s w) (hF : ∀ b, F b → B ≤ b ∧ b < w.heap.size) (hB : B ≤ w.heap.size) (hK : ∀ p : List Nat, p.length = H.length → GP H.length p → K p := by exact fun _ _ _ => trivial) :
    Calls Try.prog 56 #[hv, .func (Fn.func N2) #[] #[.pointer (some ⟨cb2, 0, none⟩)]] w fun e w' => ∃ F', e = .returned (.tuple #[]) ∧ St F' (srchF H H (fun p s => (ef p s, false)) H.length [] s).1 w' ∧ Below B w w' := by
  obtain ⟨ha, hc, rfl⟩ := (HR F s w hst).slice
  have hq0 : Below w.heap.size w ((w.alloc (.cells #[.func (Fn.func N2) #[] #[.pointer (some ⟨cb2, 0, none⟩)]] 82)).alloc (.cells #[.slice ha (natsI H).length hc, .slice ha (natsI H).length hc, .slice none 0 0, .int .u32 0, .func (Fn.func 83) #[] #[.pointer (some ⟨w.heap.size, 0, none⟩)]] 104)) := ((Below.refl _ _).alloc (Nat.le_refl _) _).alloc (by simp) _
  have hqB := hq0.mono hB
  have hG : GSt 3 104 (AutSt 82 N2 cb2 w.heap.size B St) ((w.alloc (.cells #[.func (Fn.func N2) #[] #[.pointer (some ⟨cb2, 0, none⟩)]] 82)).alloc (.cells #[.slice ha (natsI H).length hc, .slice ha (natsI H).length hc, .slice none 0 0, .int .u32 0, .func (Fn.func 83) #[] #[.pointer (some ⟨w.heap.size, 0, none⟩)]] 104)) B (w.heap.size + 1)
      (.slice ha (natsI H).length hc) (.slice ha (natsI H).length hc) (.func (Fn.func 83) #[] #[.pointer (some ⟨w.heap.size, 0, none⟩)]) [] s := by
    have hr := World.ownsRow_lit (base := B) (e := 104) (size := 5) (w.alloc (.cells #[.func (Fn.func N2) #[] #[.pointer (some ⟨cb2, 0, none⟩)]] 82)) #[.slice ha (natsI H).length hc, .slice ha (natsI H).length hc, .slice none 0 0, .int .u32 0, .func (Fn.func 83) #[] #[.pointer (some ⟨w.heap.size, 0, none⟩)]] 1 (by simp; omega) (by unfold maxLen; omega) rfl
    have hnF : ¬ F w.heap.size := fun hf => by have := (hF _ hf).2; omega
    have hnF1 : ¬ F (w.heap.size + 1) := fun hf => by have := (hF _ hf).2; omega
    refine ⟨.slice none 0 0, fun b => b = w.heap.size ∨ F b, by simpa [maskN, Own] using hr, Own.nil _ _ _ _, (fun b h => by simp [Value.ownBlock] at h), ?_, (fun b h => ?_), ?_⟩
    · intro h
      rcases h with h | h
      · omega
      · exact hnF1 h
    · rcases h with h | h
      · subst h; simp; omega
      · have := hF b h; simp; omega
    · refine ⟨F, fun b => Iff.rfl, hnF, (own_new w B 82 _ hB).alloc _, HV.keep _ _ _ _ hst (fun b hb => ?_)⟩
      have := (hF b hb).2
      exact hq0.block b this
  have hgr := grow_any (w0 := w) (eachAut HV) (fun F' s' w' _ h => by
    obtain ⟨F0, _, _, _, h0⟩ := h
    exact ⟨HR F0 s' w' h0, HR F0 s' w' h0⟩) hH16 hH16 hHl hHl hK H.length [] s _ (by simp) ⟨by simp, by simp⟩ hG (by simp; omega) hqB
  clear hG hK
  go_enter Try.func56, Try.ntmps56
  go_wp2_with fail
  refine hgr.mono ?_
  rintro e w2 ⟨rfl, hG2, hb2⟩
  obtain ⟨pv, F1, -, -, -, -, -, F0, -, -, -, h2⟩ := hG2
  clear hgr
  go_wp2
  go_end0
  exact ⟨F0, rfl, h2, hqB.trans hb2⟩
noncomputable def symI (g : List (List Int)) : Int := if smallB g = true then (cntN (netsL g) (netsL g) g.length [] : Int) else 0
theorem sym_run {g : List (List Int)} (h : smallB g = true) : (srchF (netsL g) (netsL g) symEf (netsL g).length [] 0).1 = symI g := by
  have h8 : g.length ≤ 8 := by simp only [smallB, Bool.and_eq_true, decide_eq_true_eq] at h; exact h.2
  have hp := pow_small h8 h8
  rw [srch_sym _ _ _ _ _ (by omega) (by rw [netsL_len]; omega), symI, if_pos h, netsL_len]
  simp
set_option maxRecDepth 100000 in
set_option maxHeartbeats 2000000 in
theorem implSymmetries_any {S : Nat → Prop} {gv : Value} {g : List (List Int)} {w : World} (hvg : SlR S w gv g) :
    Calls Try.prog 23 #[.agg #[gv]] w fun e w' => e = .returned (.int .i64 (symI g)) ∧ Below w.heap.size w w' := by
  have hq0 : Below w.heap.size w (w.alloc (.cells #[gv] 31)) := (Below.refl _ _).alloc (Nat.le_refl _) _
  obtain ⟨ga, gc, rfl⟩ := hvg.slice
  have hs0 := isSmall_any (hvg.below hq0 (Nat.le_refl _))
  by_cases hsm : smallB g = true
  case neg =>
    have hsm' : smallB g = false := by simpa using hsm
    rw [hsm'] at hs0
    have HE := Lib.hid (show symI g = 0 by rw [symI, hsm']; rfl)
    clear hsm hsm'
    go_enter Try.func23, Try.ntmps23
    go_wp2_with fail
    refine hs0.mono ?_
    rintro e w1 ⟨rfl, hb1⟩
    go_wp2
    go_ret
    exact ⟨ret_int HE.out.symm, hq0.trans (hb1.mono hq0.size)⟩
  have HR := Lib.hid (sym_run hsm)
  rw [hsm] at hs0
  have hGg := gokB_iff.1 (show gokB g = true by simp only [smallB, Bool.and_eq_true] at hsm; exact hsm.1)
  have hhg := hGg.hi
  clear hsm
  go_enter Try.func23, Try.ntmps23
  go_wp2_with fail
  refine hs0.mono ?_
  rintro e w1 ⟨rfl, hb1⟩
  have hq1 := hq0.trans (hb1.mono hq0.size)
  have c3 : w1.cell? ⟨w.heap.size, 0, none⟩ = some (.slice ga g.length gc) := (hb1.cell (p := ⟨w.heap.size, 0, none⟩) (by simp)).trans (by simp [go_sem])
  have hb2 : Below w1.heap.size w1 (w1.alloc (.cells #[.int .i64 0] 2)) := (Below.refl _ _).alloc (Nat.le_refl _) _
  have hq2 := hq1.trans (hb2.mono hq1.size)
  have c3b := (hb2.cell (cell_lt c3)).trans c3
  clear hs0
  have hcell := own_new w1 w.heap.size 2 (.int .i64 0) hq1.size
  go_wp2_with fail
  refine (netsOf_any _ _ _ (hvg.below hq2 (Nat.le_refl _)) hGg).mono ?_
  rintro e w3 ⟨x, rfl, hx, hb3⟩
  have hq3 := hq2.trans (hb3.mono hq2.size)
  have hxi := (Own.ints (xs := natsI (netsL g)) hx (by omega)).low
  have hcell3 := hcell.below hb3 (Nat.le_refl _)
  have hxge := hx.ge
  obtain ⟨xa, xc, rfl⟩ := hxi.slice
  have hz : SlI (fun b => (Value.slice xa (natsI (netsL g)).length xc).ownBlock = some b) w3 .u32 (.slice xa (natsI (netsL g)).length xc) (natsI (netsL g)) := Own.ints (xs := natsI (netsL g)) hx (by omega)
  have haut := automorphisms_any (w := w3) (s := (0 : Int)) (F := fun b => b = w1.heap.size ∨ (Value.slice xa (natsI (netsL g)).length xc).ownBlock = some b) (voidSym w1.heap.size w.heap.size (fun b => (Value.slice xa (natsI (netsL g)).length xc).ownBlock = some b) (.slice xa (natsI (netsL g)).length xc) (netsL g))
    (fun F s w h => h.2.2.2.weak (fun _ _ => trivial)) (by rw [netsL_len]; omega) (netsL_lt hGg) ⟨fun _ => Iff.rfl, hcell3, (fun h => by have := hxge _ h; (simp at this) <;> omega), hz⟩ (fun b hb => by
      rcases hb with rfl | hb
      · exact ⟨hq1.size, by have := hb3.size; simp at this; omega⟩
      · have := hx.lt b hb; have h2 := hq2.size; exact ⟨by omega, this.2⟩) hq3.size
  have HR2 := HR.out
  clear hz hxi hcell c3 c3b
  rw [natsI_len, netsL_len] at *
  go_wp2_with fail
  refine haut.mono ?_
  rintro e w4 ⟨F', rfl, hst, hb4⟩
  have hc4 := (own_cell hst.2.1).1
  have hrr : (srchF (netsL g) (netsL g) (fun _ s => (IntKind.i64.wrap (s + 1), false)) g.length [] 0).1 = symI g := by rw [← HR2]; rfl
  rw [hrr] at hc4
  clear haut HR2 hrr
  go_wp2
  go_ret
  exact ⟨rfl, hq3.trans (hb4.mono (Nat.le_refl _))⟩
theorem specSymmetries_any {S : Nat → Prop} {gv : Value} {g : List (List Int)} {w : World} (hvg : SlR S w gv g) :
    Calls Try.prog 25 #[.agg #[gv]] w fun e w' => e = .returned (.int .i64 (symI g)) ∧ Below w.heap.size w w' := by
  have hq0 : Below w.heap.size w (w.alloc (.cells #[gv] 31)) := (Below.refl _ _).alloc (Nat.le_refl _) _
  obtain ⟨ga, gc, rfl⟩ := hvg.slice
  have hs0 := l4Small_any (hvg.below hq0 (Nat.le_refl _))
  by_cases hsm : smallB g = true
  case neg =>
    have hsm' : smallB g = false := by simpa using hsm
    rw [hsm'] at hs0
    have HE := Lib.hid (show symI g = 0 by rw [symI, hsm']; rfl)
    clear hsm hsm'
    go_enter Try.func25, Try.ntmps25
    go_wp2_with fail
    refine hs0.mono ?_
    rintro e w1 ⟨rfl, hb1⟩
    go_wp2
    go_ret
    exact ⟨ret_int HE.out.symm, hq0.trans (hb1.mono hq0.size)⟩
  rw [hsm] at hs0
  have HE := Lib.hid (show symI g = (cntN (netsL g) (netsL g) g.length [] : Int) by rw [symI, if_pos hsm])
  have hGg := gokB_iff.1 (show gokB g = true by simp only [smallB, Bool.and_eq_true] at hsm; exact hsm.1)
  have h8 : g.length ≤ 8 := by simp only [smallB, Bool.and_eq_true, decide_eq_true_eq] at hsm; exact hsm.2
  clear hsm
  go_enter Try.func25, Try.ntmps25
  go_wp2_with fail
  refine hs0.mono ?_
  rintro e w1 ⟨rfl, hb1⟩
  have hq1 := hq0.trans (hb1.mono hq0.size)
  have c3 : w1.cell? ⟨w.heap.size, 0, none⟩ = some (.slice ga g.length gc) := (hb1.cell (p := ⟨w.heap.size, 0, none⟩) (by simp)).trans (by simp [go_sem])
  have hq2 := hq1.alloc hq1.size (.cells #[] 2)
  clear hs0
  go_wp2_with fail
  (with_reducible refine (l4Count_any hGg h8 g.length [] _ _ (hvg.below hq2 (Nat.le_refl _)) (SlI.emptyN _ _ _ _) (by simp) (GP.nil _)).mono ?_)
  rintro e w3 ⟨rfl, hb3⟩
  go_wp2
  go_ret
  exact ⟨ret_int HE.out.symm, hq2.trans (hb3.mono hq2.size)⟩
