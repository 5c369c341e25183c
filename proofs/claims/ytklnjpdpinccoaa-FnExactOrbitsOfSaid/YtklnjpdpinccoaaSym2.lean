/- Symmetries of the program and of the reference. -/
import Derived.Test.YtklnjpdpinccoaaSym
namespace Go.Proofs.Ytklnjpdpinccoaa
open Go.RowKit
variable {σ : Type}
/-- What is called at each complete path, without a result. -/
structure VoidC (P : Program) (N cb B : Nat) (E : TypeId) (v0 : Value) (St : (Nat → Prop) → σ → World → Prop) (ef : List Nat → σ → σ) (K : List Nat → Prop := fun _ => True) : Prop where
  call : ∀ (F : Nat → Prop) (s : σ) (pv : Value) (p : List Nat) (w : World), St F s w → Own w B E 1 pv p.length ((natsI p).map (.int .i64)) → (∀ b, pv.ownBlock = some b → ¬ F b) → (∀ b, F b → b < w.heap.size) → B ≤ w.heap.size → p.length ≤ 16 → K p →
    Calls P N #[pv, .pointer (some ⟨cb, 0, none⟩)] w fun e w' => e = .returned v0 ∧ St F (ef p s) w' ∧ Keeps F w w'
  ent : ∀ (args : Array Value) (w : World), (callFunc N args).run P w = .ok (.enter N args) w
  keep : ∀ (F : Nat → Prop) (s : σ) (w w' : World), St F s w → (∀ b, F b → w'.heap[b]? = w.heap[b]?) → St F s w'
/-- With the variable that holds the function value. -/
def AutSt (FE : TypeId) (N2 cb2 cb B : Nat) (St : (Nat → Prop) → σ → World → Prop) (F : Nat → Prop) (s : σ) (w : World) : Prop :=
  ∃ F0 : Nat → Prop, (∀ b, F b ↔ b = cb ∨ F0 b) ∧ ¬ F0 cb ∧ Own w B FE 1 (.slice (some ⟨cb, 0, none⟩) 1 1) 1 [.func (Fn.func N2) #[] #[.pointer (some ⟨cb2, 0, none⟩)]] ∧ St F0 s w
set_option maxRecDepth 100000 in
set_option maxHeartbeats 1000000 in
theorem eachAut {St : (Nat → Prop) → σ → World → Prop} {ef : List Nat → σ → σ} {N2 cb2 cb B : Nat} {v0 : Value} {K : List Nat → Prop} (HV : VoidC Try.prog N2 cb2 B 3 v0 St ef K) :
    EachC Try.prog 76 cb B 3 (AutSt 66 N2 cb2 cb B St) (fun p s => (ef p s, false)) K := by
  refine ⟨?_, fun args w => run_enter Try.func76 (by kernel_rfl) rfl args w, ?_⟩
  · intro F s pv p w hst hown hpF hFl hB hp hKp
    obtain ⟨F0, hF, hn, h1, h2⟩ := hst
    obtain ⟨c1, f1, hB1, hl1⟩ := own_cell h1
    have hcl := HV.call F0 s pv p w h2 hown (fun b hb hf => hpF b hb ((hF b).2 (.inr hf))) (fun b hf => hFl b ((hF b).2 (.inr hf))) hB hp hKp
    obtain ⟨pa, pc, rfl⟩ := hown.isSlice
    go_enter Try.func76, Try.ntmps76
    go_wp2_with fail
    rw [HV.ent, Oper.upon_enter]
    refine hcl.mono ?_
    rintro e w1 ⟨rfl, hs1, hk⟩
    go_wp2
    go_ret
    refine ⟨F, rfl, ⟨F0, hF, hn, h1.keep (fun k hk2 => hk.block k (h1.lt k hk2).2 (fun hf => hn (by (have e : cb = k := by simpa [Value.ownBlock] using hk2); rw [e]; exact hf))), hs1⟩, fun b hb => .inl hb, fun b hb => Nat.lt_of_lt_of_le (hFl b hb) hk.size, ⟨hk.os, hk.tape, hk.output, hk.size, fun b hb hf => hk.block b hb (fun h => hf ((hF b).2 (.inr h)))⟩⟩
  · intro F s w w' hst hk
    obtain ⟨F0, hF, hn, h1, h2⟩ := hst
    exact ⟨F0, hF, hn, h1.keep (fun k hk2 => hk k ((hF k).2 (.inl (by simpa [Value.ownBlock, eq_comm] using hk2)))), HV.keep _ _ _ _ h2 (fun b hb => hk b ((hF b).2 (.inr hb)))⟩
set_option maxRecDepth 100000 in
set_option maxHeartbeats 2000000 in
theorem automorphisms_any {St : (Nat → Prop) → σ → World → Prop} {ef : List Nat → σ → σ} {N2 cb2 B : Nat} {hv : Value} {H : List Nat} {F : Nat → Prop} {s : σ} {w : World} {K : List Nat → Prop} (HV : VoidC Try.prog N2 cb2 B 3 (.tuple #[]) St ef K)
    (HR : ∀ (F : Nat → Prop) (s : σ) (w : World), St F s w → SlI (fun _ => True) w .u32 hv (natsI H)) (hH16 : H.length ≤ 16) (hHl : ∀ m ∈ H, m < 4294967296) (hst : St F s w) (hF : ∀ b, F b → B ≤ b ∧ b < w.heap.size) (hB : B ≤ w.heap.size) (hK : ∀ p : List Nat, p.length = H.length → GP H.length p → K p := by exact fun _ _ _ => trivial) :
    Calls Try.prog 40 #[hv, .func (Fn.func N2) #[] #[.pointer (some ⟨cb2, 0, none⟩)]] w fun e w' => ∃ F', e = .returned (.tuple #[]) ∧ St F' (srchF H H (fun p s => (ef p s, false)) H.length [] s).1 w' ∧ Below B w w' := by
  obtain ⟨ha, hc, rfl⟩ := (HR F s w hst).slice
  have hq0 : Below w.heap.size w ((w.alloc (.cells #[.func (Fn.func N2) #[] #[.pointer (some ⟨cb2, 0, none⟩)]] 66)).alloc (.cells #[.slice ha (natsI H).length hc, .slice ha (natsI H).length hc, .slice none 0 0, .int .u32 0, .func (Fn.func 76) #[] #[.pointer (some ⟨w.heap.size, 0, none⟩)]] 102)) := ((Below.refl _ _).alloc (Nat.le_refl _) _).alloc (by simp) _
  have hqB := hq0.mono hB
  have hG : GSt 3 102 (AutSt 66 N2 cb2 w.heap.size B St) ((w.alloc (.cells #[.func (Fn.func N2) #[] #[.pointer (some ⟨cb2, 0, none⟩)]] 66)).alloc (.cells #[.slice ha (natsI H).length hc, .slice ha (natsI H).length hc, .slice none 0 0, .int .u32 0, .func (Fn.func 76) #[] #[.pointer (some ⟨w.heap.size, 0, none⟩)]] 102)) B (w.heap.size + 1)
      (.slice ha (natsI H).length hc) (.slice ha (natsI H).length hc) (.func (Fn.func 76) #[] #[.pointer (some ⟨w.heap.size, 0, none⟩)]) [] s := by
    have hr := World.ownsRow_lit (base := B) (e := 102) (size := 5) (w.alloc (.cells #[.func (Fn.func N2) #[] #[.pointer (some ⟨cb2, 0, none⟩)]] 66)) #[.slice ha (natsI H).length hc, .slice ha (natsI H).length hc, .slice none 0 0, .int .u32 0, .func (Fn.func 76) #[] #[.pointer (some ⟨w.heap.size, 0, none⟩)]] 1 (by simp; omega) (by unfold maxLen; omega) rfl
    have hnF : ¬ F w.heap.size := fun hf => by have := (hF _ hf).2; omega
    have hnF1 : ¬ F (w.heap.size + 1) := fun hf => by have := (hF _ hf).2; omega
    refine ⟨.slice none 0 0, fun b => b = w.heap.size ∨ F b, by simpa [maskN, Own] using hr, Own.nil _ _ _ _, (fun b h => by simp [Value.ownBlock] at h), ?_, (fun b h => ?_), ?_⟩
    · intro h
      rcases h with h | h
      · omega
      · exact hnF1 h
    · rcases h with h | h
      · subst h; simp; omega
      · have := hF b h; simp; omega
    · refine ⟨F, fun b => Iff.rfl, hnF, (own_new w B 66 _ hB).alloc _, HV.keep _ _ _ _ hst (fun b hb => ?_)⟩
      have := (hF b hb).2
      exact hq0.block b this
  have hgr := grow_any (w0 := w) (eachAut HV) (fun F' s' w' _ h => by
    obtain ⟨F0, _, _, _, h0⟩ := h
    exact ⟨HR F0 s' w' h0, HR F0 s' w' h0⟩) hH16 hH16 hHl hHl hK H.length [] s _ (by simp) ⟨by simp, by simp⟩ hG (by simp; omega) hqB
  clear hG hK
  go_enter Try.func40, Try.ntmps40
  go_wp2_with fail
  refine hgr.mono ?_
  rintro e w2 ⟨rfl, hG2, hb2⟩
  obtain ⟨pv, F1, -, -, -, -, -, F0, -, -, -, h2⟩ := hG2
  clear hgr
  go_wp2
  go_end0
  exact ⟨F0, rfl, h2, hqB.trans hb2⟩
noncomputable def symI (g : List (List Int)) : Int := if smallB g = true then (cntN (netsL g) (netsL g) g.length [] : Int) else 0
theorem sym_run {g : List (List Int)} (h : smallB g = true) : (srchF (netsL g) (netsL g) symEf (netsL g).length [] 0).1 = symI g := by
  have h8 : g.length ≤ 8 := by simp only [smallB, Bool.and_eq_true, decide_eq_true_eq] at h; exact h.2
  have hp := pow_small h8 h8
  rw [srch_sym _ _ _ _ _ (by omega) (by rw [netsL_len]; omega), symI, if_pos h, netsL_len]
  simp
