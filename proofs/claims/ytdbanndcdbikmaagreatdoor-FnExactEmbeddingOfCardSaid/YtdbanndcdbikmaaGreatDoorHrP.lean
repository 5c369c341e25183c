/- The program's search for the turns. -/
import Derived.Test.YtdbanndcdbikmaaGreatDoorHrT
import Derived.Test.YtdbanndcdbikmaaGreatDoorFacV
import Derived.Test.YtdbanndcdbikmaaGreatDoorGroW
namespace Go.Proofs.YtdbanndcdbikmaaGreatDoor
open Go.RowKit Go.Maps
theorem row_read {S : Nat → Prop} {w : World} {a : Option Addr} {n c i : Nat} {l : List Nat} (h : SlI S w .i64 (.slice a n c) (natsI l)) (hi : i < n) : ∃ b o, a = some ⟨b, o, none⟩ ∧ S b ∧ i < l.length ∧ w.cell? ⟨b, o + i, none⟩ = some (.int .i64 ((l.getD i 0 : Nat) : Int)) := by
  obtain ⟨a', b, off, cap, he, hl, ha, hc⟩ := h
  simp only [Value.slice.injEq] at he
  obtain ⟨rfl, rfl, rfl⟩ := he
  obtain ⟨rfl, hS⟩ := ha (by omega)
  have h1 := hc i hi
  rw [natsI_len] at hi
  rw [natsI_get] at h1
  exact ⟨b, off, rfl, hS, hi, by rw [h1]; simp [hi]⟩
theorem Grn.dr {w w' : World} {F F' : Nat → Prop} {tb to n : Nat} (g : Grn w w' F F' tb to n) : Grn w w'.drew F F' tb to n :=
  g.trans ⟨Keeps.ofDrawn _ (Drawn.refl w').drew, fun _ _ => rfl, fun _ _ => rfl, fun _ h => .inl h, g.lt⟩
theorem getD_memN {l : List Nat} {i : Nat} (h : i < l.length) : l.getD i 0 ∈ l := by simp [h]
/-- What the search does from a state on. -/
def GrowsTo {σ : Type} (P : Program) (fn : Nat) (St : (Nat → Prop) → σ → World → Prop) (ef : List (List Nat) → σ → σ) (E : List (Nat × Nat)) (xb tb to n tc N cb db : Nat) (ea : Option Addr) (ec k : Nat) : Prop :=
  ∀ (t : List (List Nat)) (s : σ) (w : World) (F : Nat → Prop) (fv : Nat → Value), HasE n t (E.take k) → St F s w → BoxE w F xb tb to n tc N cb db ea ec E → TurnAt w tb to n fv F t → (∀ b, F b → b < w.heap.size) →
    Calls P fn #[.pointer (some ⟨xb, 0, none⟩), .int .i64 (k : Int)] w fun e w' => ∃ F' : Nat → Prop, e = .returned (.tuple #[]) ∧ St F' ((rawI (E.drop k) t).foldl (fun s x => ef x s) s) w' ∧ Grn w w' F F' tb to n
open Classical in
/-- The second place's loop. -/
noncomputable def inG {σ : Type} (ef : List (List Nat) → σ → σ) (es : List (Nat × Nat)) (t : List (List Nat)) (u v i : Nat) (m : Nat) (s : σ) : σ :=
  (List.range m).foldl (fun s k => if OkI t u v i k then (rawI es (stepE t u v i k)).foldl (fun s x => ef x s) s else s) s
noncomputable def outG {σ : Type} (ef : List (List Nat) → σ → σ) (es : List (Nat × Nat)) (t : List (List Nat)) (u v : Nat) (m : Nat) (s : σ) : σ :=
  (List.range m).foldl (fun s i => inG ef es t u v i (max 1 (t.getD v []).length) s) s
open Classical in
theorem inG_succ {σ : Type} (ef : List (List Nat) → σ → σ) (es : List (Nat × Nat)) (t : List (List Nat)) (u v i m : Nat) (s : σ) : inG ef es t u v i (m + 1) s = if OkI t u v i m then (rawI es (stepE t u v i m)).foldl (fun s x => ef x s) (inG ef es t u v i m s) else inG ef es t u v i m s := by
  unfold inG
  rw [List.range_succ, List.foldl_append]
  rfl
theorem outG_succ {σ : Type} (ef : List (List Nat) → σ → σ) (es : List (Nat × Nat)) (t : List (List Nat)) (u v m : Nat) (s : σ) : outG ef es t u v (m + 1) s = inG ef es t u v m (max 1 (t.getD v []).length) (outG ef es t u v m s) := by
  unfold outG
  rw [List.range_succ, List.foldl_append]
  rfl
theorem foldl_flat {α β σ : Type} (f : σ → β → σ) (g : α → List β) : ∀ (l : List α) (s : σ), (l.flatMap g).foldl f s = l.foldl (fun s a => (g a).foldl f s) s
  | [], s => rfl
  | a :: l, s => by rw [List.flatMap_cons, List.foldl_append, foldl_flat f g l, List.foldl_cons]
theorem outG_all {σ : Type} (ef : List (List Nat) → σ → σ) (es : List (Nat × Nat)) (t : List (List Nat)) (e : Nat × Nat) (s : σ) : (rawI (e :: es) t).foldl (fun s x => ef x s) s = outG ef es t e.1 e.2 (max 1 (t.getD e.1 []).length) s := by
  rw [rawI, foldl_flat]
  unfold outG inG
  refine congrArg (fun f => List.foldl f s _) (funext fun s => funext fun i => ?_)
  rw [foldl_flat]
  refine congrArg (fun f => List.foldl f s _) (funext fun s => funext fun k => ?_)
  split <;> rfl
set_option maxRecDepth 100000 in
set_option maxHeartbeats 16000000 in
theorem growE_end {σ : Type} {St : (Nat → Prop) → σ → World → Prop} {ef : List (List Nat) → σ → σ} {N cb db : Nat} {K : List (List Nat) → Prop} (HE : EachT Tryz.prog N cb db St ef K) {E : List (Nat × Nat)} {n : Nat}
    (hK : ∀ t, HasE n t E → K t) {xb tb to tc ec : Nat} {ea : Option Addr} : GrowsTo Tryz.prog 89 St ef E xb tb to n tc N cb db ea ec E.length := by
  intro t s w F fv ht hst hbx htu hF
  have hqt := htu.slR ht.len hbx.tt.1 hbx.tt.2.1 hbx.tt.2.2.1 hbx.tt.2.2.2
  have HDR := Lib.hid (show (rawI (E.drop E.length) t).foldl (fun s x => ef x s) s = ef t s by rw [List.drop_length, rawI]; rfl)
  have HKT := Lib.hid (hK t (by rw [List.take_length] at ht; exact ht))
  obtain ⟨c0, c1, c2, ⟨h1, -⟩, -, -, -, h3, h4⟩ := hbx
  have hTW := Lib.hid (fun (w' : World) (F' : Nat → Prop) (hs : ∀ b, F' b → F b ∨ w.drew.heap.size ≤ b) (hl : ∀ b, F' b → b < w'.heap.size) (hk : Keeps F w.drew w') => show Grn w w' F F' tb to n from
    have hb : w'.heap[tb]? = w.heap[tb]? := hk.block tb h3 h4
    ⟨⟨hk.os, hk.tape, hk.output, hk.size, fun b hb hf => hk.block b hb (fun hc => hf (.inl hc))⟩, fun a ha => cell_heap hb, fun a ha => World.frozen?_of_block hb, hs, hl⟩)
  go_enter Tryz.func89, Tryz.ntmps89
  go_wp2
  refine wp_region_held_drew (S := (fun w' => w'.cell? ⟨xb, 1, none⟩ = some (.slice (some ⟨tb, to, none⟩) n tc) ∧ w'.cell? ⟨xb, 2, none⟩ = some (.func (Fn.func N) #[] #[.pointer (some ⟨cb, 0, none⟩), .pointer (some ⟨db, 0, none⟩)]))) (by kernel_rfl) ?_ (fun hHeld => ?_)
  · first | exact ⟨‹_›, ‹_›⟩ | assumption | (simp [*, go_sem])
  refine wpAnyH_take (i := 0) (v := ?v1) (by simp only [List.getElem?_toArray, List.getElem?_cons_zero]; exact rfl) (by kernel_rfl) (by kernel_rfl) (by kernel_rfl) (by intro _ _ _ h; exact h) (Or.inl ⟨by rfl, ?y1⟩) hHeld ?_
  case y1 => (intro w hSw; (try dsimp only at hSw); go_simp; try (with_reducible rfl))
  try simp only [Act.put, List.setIfInBounds_toArray, List.set_cons_zero, List.set_cons_succ]
  refine wpAnyH_take (i := 1) (v := ?v2) (by simp only [List.getElem?_toArray, List.getElem?_cons_succ, List.getElem?_cons_zero]; exact rfl) (by kernel_rfl) (by kernel_rfl) (by kernel_rfl) (by intro _ _ _ h; exact h) (Or.inl ⟨by rfl, ?y2⟩) hHeld ?_
  case y2 => (intro w hSw; (try dsimp only at hSw); go_simp; try (with_reducible rfl))
  try simp only [Act.put, List.setIfInBounds_toArray, List.set_cons_zero, List.set_cons_succ]
  refine wpAnyH_take (i := 2) (v := ?v3) (by simp only [List.getElem?_toArray, List.getElem?_cons_succ, List.getElem?_cons_zero]; exact rfl) (by kernel_rfl) (by kernel_rfl) (by kernel_rfl) (by intro _ _ _ h; exact h) (Or.inl ⟨by rfl, ?y3⟩) hHeld ?_
  case y3 => (intro w hSw; (try dsimp only at hSw); go_simp; try (with_reducible rfl))
  try simp only [Act.put, List.setIfInBounds_toArray, List.set_cons_zero, List.set_cons_succ]
  refine wpAnyH_take (i := 3) (v := ?v4) (by simp only [List.getElem?_toArray, List.getElem?_cons_succ, List.getElem?_cons_zero]; exact rfl) (by kernel_rfl) (by kernel_rfl) (by kernel_rfl) (by intro _ _ _ h; exact h) (Or.inl ⟨by rfl, ?y4⟩) hHeld ?_
  case y4 => (intro w hSw; (try dsimp only at hSw); go_simp; try (with_reducible rfl))
  try simp only [Act.put, List.setIfInBounds_toArray, List.set_cons_zero, List.set_cons_succ]
  refine wpAnyH_take (i := 4) (v := ?v5) (by simp only [List.getElem?_toArray, List.getElem?_cons_succ, List.getElem?_cons_zero]; exact rfl) (by kernel_rfl) (by kernel_rfl) (by kernel_rfl) (by intro _ _ _ h; exact h) (Or.inl ⟨by rfl, ?y5⟩) hHeld ?_
  case y5 => (intro w hSw; (try dsimp only at hSw); go_simp; try (with_reducible rfl))
  try simp only [Act.put, List.setIfInBounds_toArray, List.set_cons_zero, List.set_cons_succ]
  refine wpAnyH_take (i := 5) (v := ?v6) (by simp only [List.getElem?_toArray, List.getElem?_cons_succ, List.getElem?_cons_zero]; exact rfl) (by kernel_rfl) (by kernel_rfl) (by kernel_rfl) (by intro _ _ _ h; exact h) (Or.inl ⟨by rfl, ?y6⟩) hHeld ?_
  case y6 => (intro w hSw; (try dsimp only at hSw); go_simp; try (with_reducible rfl))
  try simp only [Act.put, List.setIfInBounds_toArray, List.set_cons_zero, List.set_cons_succ]
  refine wpAnyH_take (i := 6) (v := ?v7) (by simp only [List.getElem?_toArray, List.getElem?_cons_succ, List.getElem?_cons_zero]; exact rfl) (by kernel_rfl) (by kernel_rfl) (by kernel_rfl) (by intro _ _ _ h; exact h) (Or.inl ⟨by rfl, ?y7⟩) hHeld ?_
  case y7 => (intro w hSw; (try dsimp only at hSw); go_simp; try (with_reducible rfl))
  try simp only [Act.put, List.setIfInBounds_toArray, List.set_cons_zero, List.set_cons_succ]
  refine wpAnyH_take (i := 7) (v := ?v8) (by simp only [List.getElem?_toArray, List.getElem?_cons_succ, List.getElem?_cons_zero]; exact rfl) (by kernel_rfl) (by kernel_rfl) (by kernel_rfl) (by intro _ _ _ h; exact h) (Or.inl ⟨by rfl, ?y8⟩) hHeld ?_
  case y8 => (intro w hSw; (try dsimp only at hSw); go_simp; try (with_reducible rfl))
  try simp only [Act.put, List.setIfInBounds_toArray, List.set_cons_zero, List.set_cons_succ]
  refine wpAnyH_ready (rs := [8]) (by kernel_rfl) (by simp) ?_
  refine AllReadyH.cons (by simp only [List.getElem?_toArray, List.getElem?_cons_succ, List.getElem?_cons_zero]; exact rfl) (fun K hK => ?_) AllReadyH.nil
  go_simp
  rw [HE.ent, Oper.upon_enter]
  refine (HE.call F s _ t w.drew (HE.keep _ _ _ _ hst (fun _ _ => rfl)) hqt.drew (fun b hb => hF b hb) HKT.out).mono ?_
  rintro e w1 ⟨F1, rfl, hst1, hF1, hF1l, hk1⟩
  have d1 : w1.cell? ⟨xb, 1, none⟩ = some (.slice (some ⟨tb, to, none⟩) n tc) := (cell_heap (w := w) (hk1.block _ (cell_lt c1) h1)).trans c1
  have d2 : w1.cell? ⟨xb, 2, none⟩ = some (.func (Fn.func N) #[] #[.pointer (some ⟨cb, 0, none⟩), .pointer (some ⟨db, 0, none⟩)]) := (cell_heap (w := w) (hk1.block _ (cell_lt c2) h1)).trans c2
  try dsimp only
  refine hK.out _ _ ?h10 (fun hHeld => ?_)
  case h10 => first | exact ⟨‹_›, ‹_›⟩ | assumption | (simp [*, go_sem])
  clear hK K
  try simp only [Act.put, List.setIfInBounds_toArray, List.set_cons_zero, List.set_cons_succ]
  refine wpAnyH_done (by kernel_rfl) ?_ _
  go_wp2
  refine bodyPost_ret (results_none rfl _ _ _) rfl ?_
  rw [HDR.out]
  exact ⟨F1, rfl, hst1, hTW.out _ _ hF1 hF1l hk1⟩
theorem lookN {t : List (List Nat)} {w2 : World} {mb cnt : Nat} {M : DataW Unit} {nf : Dart → Nat} (ht : RotN t) (hM : w2.ownsMap Tryz.prog 100 (plainElem Tryz.prog 3) mb cnt M) (hN : NumM t M nf) {a u : Nat} (h : IsD t (a, u)) :
    ∀ W : World, W.heap[mb]? = w2.heap[mb]? → (Instr.lookup 52 (.map (some mb)) (.agg #[.int .i64 (a : Int), .int .i64 (u : Int)]) false).run Tryz.prog W = .ok (.int .i64 (nf (a, u) : Int)) W := fun W hW => by
  have hl := h.lt ht
  have h16 := ht.le
  simp only at hl
  have hMW : W.ownsMap Tryz.prog 100 (plainElem Tryz.prog 3) mb cnt M := by
    obtain ⟨es, clock, hb, rest⟩ := hM
    exact ⟨es, clock, hW.trans hb, rest⟩
  obtain ⟨c, h1, h2, -⟩ := hMW.lookup_int (t := 52) keyArr Tryz.underlying52 Tryz.underlying3 (zeroIntF _) (keyD (p := a) (q := u) (by omega) (by omega))
  rw [hN.at_ a u h] at h2
  simp only [DataW.lit.injEq, Lit.int.injEq, true_and] at h2
  rw [h1, h2]
set_option maxRecDepth 100000 in
set_option maxHeartbeats 16000000 in
theorem growE_step {σ : Type} {St : (Nat → Prop) → σ → World → Prop} {ef : List (List Nat) → σ → σ} {N cb db : Nat} {K : List (List Nat) → Prop} (HE : EachT Tryz.prog N cb db St ef K) {E : List (Nat × Nat)} {n : Nat} (hE : EdgeL n E) {k : Nat} (hk : k < E.length)
    {xb tb to tc ec : Nat} {ea : Option Addr} (ih : GrowsTo Tryz.prog 89 St ef E xb tb to n tc N cb db ea ec (k + 1)) : GrowsTo Tryz.prog 89 St ef E xb tb to n tc N cb db ea ec k := by
  intro t s w F fv ht hst hbx htu hF
  have hel := edgeL_len hE
  have hdk : E.drop k = E[k] :: E.drop (k + 1) := List.drop_eq_getElem_cons hk
  have htk : E.take (k + 1) = E.take k ++ [E[k]] := List.take_succ_eq_append_getElem hk
  have hEk : EdgeL n (E.take k ++ E[k] :: E.drop (k + 1)) := by rw [← hdk, List.take_append_drop]; exact hE
  have HST := Lib.hid (fun i m => show HasE n (stepE t E[k].1 E[k].2 i m) (E.take (k + 1)) from by rw [htk]; exact ht.step hEk i m)
  obtain ⟨huv1, huv2, huv3⟩ := hE.lt E[k] (List.getElem_mem hk)
  have HOUT := Lib.hid (show (rawI (E.drop k) t).foldl (fun s x => ef x s) s = outG ef (E.drop (k + 1)) t E[k].1 E[k].2 (max 1 (t.getD E[k].1 []).length) s by rw [hdk]; exact outG_all _ _ _ _ _)
  obtain ⟨eb, rfl, hef, het, he0, he1⟩ := hbx.ed k hk
  have hn16 := hE.le
  have hqt := htu.slR ht.len hbx.tt.1 hbx.tt.2.1 hbx.tt.2.2.1 hbx.tt.2.2.2
  have hfa := facesV_any ht.rot (w := w.drew) hqt.drew
  rw [Nat.mul_comm 2 k] at he0 he1
  obtain ⟨c0, c1, -, -, -, htt⟩ := id hbx
  have hcu := htu.cell _ huv1
  have hcv := htu.cell _ huv2
  have hru := htu.row _ huv1
  have hrv := htu.row _ huv2
  have hlu := rot_row ht.rot E[k].1
  have hlv := rot_row ht.rot E[k].2
  obtain ⟨ua, uc, hue⟩ := hru.slice
  obtain ⟨va, vc, hve⟩ := hrv.slice
  rw [natsI_len] at hue hve
  have HIH := Lib.hid ih
  clear hdk htk hEk ih
  generalize E[k].1 = u at *
  generalize E[k].2 = v at *
  rw [hue] at hcu
  rw [hve] at hcv
  obtain ⟨lu, hLU⟩ : ∃ x, x = (t.getD u []).length := ⟨_, rfl⟩
  obtain ⟨lv, hLV⟩ : ∃ x, x = (t.getD v []).length := ⟨_, rfl⟩
  rw [← hLU] at hue hcu hlu HOUT
  rw [← hLV] at hve hcv hlv
  rw [hue] at hru
  rw [hve] at hrv
  have HLU := Lib.hid hLU
  have HLV := Lib.hid hLV
  clear hLU hLV
  have hke : ((k : Int) == (E.length : Int)) = false := by rw [beq_eq_false_iff_ne]; omega
  have hke2 : (k == E.length) = false := by rw [beq_eq_false_iff_ne]; omega
  go_enter Tryz.func89, Tryz.ntmps89
  go_wp2
  refine wp_region_held_drew (S := (fun w' => w'.cell? ⟨xb, 0, none⟩ = some (.slice (some ⟨eb, 0, none⟩) E.length ec) ∧ w'.cell? ⟨eb, k * 2, none⟩ = some (.int .i64 (u : Int)) ∧ w'.cell? ⟨eb, k * 2 + 1, none⟩ = some (.int .i64 (v : Int)))) (by kernel_rfl) ?_ (fun hHeld => ?_)
  · first | exact ⟨‹_›, ‹_›, ‹_›⟩ | assumption | (simp [*, go_sem])
  refine wpAnyH_take (i := 0) (v := ?v11) (by simp only [List.getElem?_toArray, List.getElem?_cons_zero]; exact rfl) (by kernel_rfl) (by kernel_rfl) (by kernel_rfl) (by intro _ _ _ h; exact h) (Or.inl ⟨by rfl, ?y11⟩) hHeld ?_
  case y11 => (intro w hSw; (try dsimp only at hSw); go_simp; try (with_reducible rfl))
  try simp only [Act.put, List.setIfInBounds_toArray, List.set_cons_zero, List.set_cons_succ]
  refine wpAnyH_take (i := 1) (v := ?v12) (by simp only [List.getElem?_toArray, List.getElem?_cons_succ, List.getElem?_cons_zero]; exact rfl) (by kernel_rfl) (by kernel_rfl) (by kernel_rfl) (by intro _ _ _ h; exact h) (Or.inl ⟨by rfl, ?y12⟩) hHeld ?_
  case y12 => (intro w hSw; (try dsimp only at hSw); go_simp; try (with_reducible rfl))
  try simp only [Act.put, List.setIfInBounds_toArray, List.set_cons_zero, List.set_cons_succ]
  refine wpAnyH_take (i := 2) (v := ?v13) (by simp only [List.getElem?_toArray, List.getElem?_cons_succ, List.getElem?_cons_zero]; exact rfl) (by kernel_rfl) (by kernel_rfl) (by kernel_rfl) (by intro _ _ _ h; exact h) (Or.inl ⟨by rfl, ?y13⟩) hHeld ?_
  case y13 => (intro w hSw; (try dsimp only at hSw); go_simp; try (with_reducible rfl))
  try simp only [Act.put, List.setIfInBounds_toArray, List.set_cons_zero, List.set_cons_succ]
  refine wpAnyH_take (i := 3) (v := ?v14) (by simp only [List.getElem?_toArray, List.getElem?_cons_succ, List.getElem?_cons_zero]; exact rfl) (by kernel_rfl) (by kernel_rfl) (by kernel_rfl) (by intro _ _ _ h; exact h) (Or.inl ⟨by rfl, ?y14⟩) hHeld ?_
  case y14 => (intro w hSw; (try dsimp only at hSw); go_simp; try (with_reducible rfl))
  try simp only [Act.put, List.setIfInBounds_toArray, List.set_cons_zero, List.set_cons_succ]
  refine wpAnyH_take (i := 4) (v := ?v15) (by simp only [List.getElem?_toArray, List.getElem?_cons_succ, List.getElem?_cons_zero]; exact rfl) (by kernel_rfl) (by kernel_rfl) (by kernel_rfl) (by intro _ _ _ h; exact h) (Or.inl ⟨by rfl, ?y15⟩) hHeld ?_
  case y15 => (intro w hSw; (try dsimp only at hSw); go_simp; try (with_reducible rfl))
  try simp only [Act.put, List.setIfInBounds_toArray, List.set_cons_zero, List.set_cons_succ]
  refine wpAnyH_take (i := 5) (v := ?v16) (by simp only [List.getElem?_toArray, List.getElem?_cons_succ, List.getElem?_cons_zero]; exact rfl) (by kernel_rfl) (by kernel_rfl) (by kernel_rfl) (by intro _ _ _ h; exact h) (Or.inl ⟨by rfl, ?y16⟩) hHeld ?_
  case y16 => (intro w hSw; (try dsimp only at hSw); go_simp; try (with_reducible rfl))
  try simp only [Act.put, List.setIfInBounds_toArray, List.set_cons_zero, List.set_cons_succ]
  refine wpAnyH_take (i := 6) (v := ?v17) (by simp only [List.getElem?_toArray, List.getElem?_cons_succ, List.getElem?_cons_zero]; exact rfl) (by kernel_rfl) (by kernel_rfl) (by kernel_rfl) (by intro _ _ _ h; exact h) (Or.inl ⟨by rfl, ?y17⟩) hHeld ?_
  case y17 => (intro w hSw; (try dsimp only at hSw); go_simp; try (with_reducible rfl))
  try simp only [Act.put, List.setIfInBounds_toArray, List.set_cons_zero, List.set_cons_succ]
  refine wpAnyH_take (i := 7) (v := ?v18) (by simp only [List.getElem?_toArray, List.getElem?_cons_succ, List.getElem?_cons_zero]; exact rfl) (by kernel_rfl) (by kernel_rfl) (by kernel_rfl) (by intro _ _ _ h; exact h) (Or.inl ⟨by rfl, ?y18⟩) hHeld ?_
  case y18 => (intro w hSw; (try dsimp only at hSw); go_simp; try (with_reducible rfl))
  try simp only [Act.put, List.setIfInBounds_toArray, List.set_cons_zero, List.set_cons_succ]
  refine wpAnyH_take (i := 8) (v := ?v19) (by simp only [List.getElem?_toArray, List.getElem?_cons_succ, List.getElem?_cons_zero]; exact rfl) (by kernel_rfl) (by kernel_rfl) (by kernel_rfl) (by intro _ _ _ h; exact h) (Or.inl ⟨by rfl, ?y19⟩) hHeld ?_
  case y19 => (intro w hSw; (try dsimp only at hSw); go_simp; try (with_reducible rfl))
  try simp only [Act.put, List.setIfInBounds_toArray, List.set_cons_zero, List.set_cons_succ]
  refine wpAnyH_take (i := 9) (v := ?v20) (by simp only [List.getElem?_toArray, List.getElem?_cons_succ, List.getElem?_cons_zero]; exact rfl) (by kernel_rfl) (by kernel_rfl) (by kernel_rfl) (by intro _ _ _ h; exact h) (Or.inl ⟨by rfl, ?y20⟩) hHeld ?_
  case y20 => (intro w hSw; (try dsimp only at hSw); go_simp; try (with_reducible rfl))
  try simp only [Act.put, List.setIfInBounds_toArray, List.set_cons_zero, List.set_cons_succ]
  refine wpAnyH_take (i := 10) (v := ?v21) (by simp only [List.getElem?_toArray, List.getElem?_cons_succ, List.getElem?_cons_zero]; exact rfl) (by kernel_rfl) (by kernel_rfl) (by kernel_rfl) (by intro _ _ _ h; exact h) (Or.inl ⟨by rfl, ?y21⟩) hHeld ?_
  case y21 => (intro w hSw; (try dsimp only at hSw); go_simp; try (with_reducible rfl))
  try simp only [Act.put, List.setIfInBounds_toArray, List.set_cons_zero, List.set_cons_succ]
  refine wpAnyH_take (i := 11) (v := ?v22) (by simp only [List.getElem?_toArray, List.getElem?_cons_succ, List.getElem?_cons_zero]; exact rfl) (by kernel_rfl) (by kernel_rfl) (by kernel_rfl) (by intro _ _ _ h; exact h) (Or.inl ⟨by rfl, ?y22⟩) hHeld ?_
  case y22 => (intro w hSw; (try dsimp only at hSw); go_simp; try (with_reducible rfl))
  try simp only [Act.put, List.setIfInBounds_toArray, List.set_cons_zero, List.set_cons_succ]
  refine wpAnyH_take (i := 12) (v := ?v23) (by simp only [List.getElem?_toArray, List.getElem?_cons_succ, List.getElem?_cons_zero]; exact rfl) (by kernel_rfl) (by kernel_rfl) (by kernel_rfl) (by intro _ _ _ h; exact h) (Or.inl ⟨by rfl, ?y23⟩) hHeld ?_
  case y23 => (intro w hSw; (try dsimp only at hSw); go_simp; try (with_reducible rfl))
  try simp only [Act.put, List.setIfInBounds_toArray, List.set_cons_zero, List.set_cons_succ]
  refine wpAnyH_take (i := 13) (v := ?v24) (by simp only [List.getElem?_toArray, List.getElem?_cons_succ, List.getElem?_cons_zero]; exact rfl) (by kernel_rfl) (by kernel_rfl) (by kernel_rfl) (by intro _ _ _ h; exact h) (Or.inl ⟨by rfl, ?y24⟩) hHeld ?_
  case y24 => (intro w hSw; (try dsimp only at hSw); go_simp; try (with_reducible rfl))
  try simp only [Act.put, List.setIfInBounds_toArray, List.set_cons_zero, List.set_cons_succ]
  refine wpAnyH_take (i := 14) (v := ?v25) (by simp only [List.getElem?_toArray, List.getElem?_cons_succ, List.getElem?_cons_zero]; exact rfl) (by kernel_rfl) (by kernel_rfl) (by kernel_rfl) (by intro _ _ _ h; exact h) (Or.inl ⟨by rfl, ?y25⟩) hHeld ?_
  case y25 => (intro w hSw; (try dsimp only at hSw); go_simp; try (with_reducible rfl))
  try simp only [Act.put, List.setIfInBounds_toArray, List.set_cons_zero, List.set_cons_succ]
  refine wpAnyH_take (i := 15) (v := ?v26) (by simp only [List.getElem?_toArray, List.getElem?_cons_succ, List.getElem?_cons_zero]; exact rfl) (by kernel_rfl) (by kernel_rfl) (by kernel_rfl) (by intro _ _ _ h; exact h) (Or.inl ⟨by rfl, ?y26⟩) hHeld ?_
  case y26 => (intro w hSw; (try dsimp only at hSw); go_simp; try (with_reducible rfl))
  try simp only [Act.put, List.setIfInBounds_toArray, List.set_cons_zero, List.set_cons_succ]
  refine wpAnyH_take (i := 16) (v := ?v27) (by simp only [List.getElem?_toArray, List.getElem?_cons_succ, List.getElem?_cons_zero]; exact rfl) (by kernel_rfl) (by kernel_rfl) (by kernel_rfl) (by intro _ _ _ h; exact h) (Or.inl ⟨by rfl, ?y27⟩) hHeld ?_
  case y27 => (intro w hSw; (try dsimp only at hSw); go_simp; try (with_reducible rfl))
  try simp only [Act.put, List.setIfInBounds_toArray, List.set_cons_zero, List.set_cons_succ]
  refine wpAnyH_take (i := 17) (v := ?v28) (by simp only [List.getElem?_toArray, List.getElem?_cons_succ, List.getElem?_cons_zero]; exact rfl) (by kernel_rfl) (by kernel_rfl) (by kernel_rfl) (by intro _ _ _ h; exact h) (Or.inl ⟨by rfl, ?y28⟩) hHeld ?_
  case y28 => (intro w hSw; (try dsimp only at hSw); go_simp; try (with_reducible rfl))
  try simp only [Act.put, List.setIfInBounds_toArray, List.set_cons_zero, List.set_cons_succ]
  refine wpAnyH_done (by kernel_rfl) ?_ _
  have hc1 := c1
  clear c0 he0 he1
  go_wp2_with (go_at_call 29; refine hfa.mono ?_; rintro e w1 ⟨fu, mb, cnt, M, nf, rfl, -, hM, HN, hmb, hb1⟩)
  have hb1 : Below w.heap.size w w1 := ((Below.refl w.heap.size w).drew).trans hb1
  have hmb : w.heap.size ≤ mb := hmb
  have c1 := (hb1.cell (cell_lt c1)).trans c1
  have hcu := (hb1.cell (cell_lt hcu)).trans hcu
  have hcv := (hb1.cell (cell_lt hcv)).trans hcv
  clear hfa
  go_wp2
  refine wp_region_held_drew (S := (fun w' => w'.cell? ⟨xb, 1, none⟩ = some (.slice (some ⟨tb, to, none⟩) n tc) ∧ w'.cell? ⟨tb, to + u, none⟩ = some (.slice ua lu uc) ∧ w'.cell? ⟨tb, to + v, none⟩ = some (.slice va lv vc))) (by kernel_rfl) ?_ (fun hHeld => ?_)
  · first | exact ⟨‹_›, ‹_›, ‹_›⟩ | assumption | (simp [*, go_sem])
  refine wpAnyH_take (i := 0) (v := ?v29) (by simp only [List.getElem?_toArray, List.getElem?_cons_zero]; exact rfl) (by kernel_rfl) (by kernel_rfl) (by kernel_rfl) (by intro _ _ _ h; exact h) (Or.inl ⟨by rfl, ?y29⟩) hHeld ?_
  case y29 => (intro w hSw; (try dsimp only at hSw); go_simp; try (with_reducible rfl))
  try simp only [Act.put, List.setIfInBounds_toArray, List.set_cons_zero, List.set_cons_succ]
  refine wpAnyH_take (i := 1) (v := ?v30) (by simp only [List.getElem?_toArray, List.getElem?_cons_succ, List.getElem?_cons_zero]; exact rfl) (by kernel_rfl) (by kernel_rfl) (by kernel_rfl) (by intro _ _ _ h; exact h) (Or.inl ⟨by rfl, ?y30⟩) hHeld ?_
  case y30 => (intro w hSw; (try dsimp only at hSw); go_simp; try (with_reducible rfl))
  try simp only [Act.put, List.setIfInBounds_toArray, List.set_cons_zero, List.set_cons_succ]
  refine wpAnyH_take (i := 2) (v := ?v31) (by simp only [List.getElem?_toArray, List.getElem?_cons_succ, List.getElem?_cons_zero]; exact rfl) (by kernel_rfl) (by kernel_rfl) (by kernel_rfl) (by intro _ _ _ h; exact h) (Or.inl ⟨by rfl, ?y31⟩) hHeld ?_
  case y31 => (intro w hSw; (try dsimp only at hSw); go_simp; try (with_reducible rfl))
  try simp only [Act.put, List.setIfInBounds_toArray, List.set_cons_zero, List.set_cons_succ]
  refine wpAnyH_take (i := 3) (v := ?v32) (by simp only [List.getElem?_toArray, List.getElem?_cons_succ, List.getElem?_cons_zero]; exact rfl) (by kernel_rfl) (by kernel_rfl) (by kernel_rfl) (by intro _ _ _ h; exact h) (Or.inl ⟨by rfl, ?y32⟩) hHeld ?_
  case y32 => (intro w hSw; (try dsimp only at hSw); go_simp; try (with_reducible rfl))
  try simp only [Act.put, List.setIfInBounds_toArray, List.set_cons_zero, List.set_cons_succ]
  refine wpAnyH_take (i := 4) (v := ?v33) (by simp only [List.getElem?_toArray, List.getElem?_cons_succ, List.getElem?_cons_zero]; exact rfl) (by kernel_rfl) (by kernel_rfl) (by kernel_rfl) (by intro _ _ _ h; exact h) (Or.inl ⟨by rfl, ?y33⟩) hHeld ?_
  case y33 => (intro w hSw; (try dsimp only at hSw); go_simp; try (with_reducible rfl))
  try simp only [Act.put, List.setIfInBounds_toArray, List.set_cons_zero, List.set_cons_succ]
  refine wpAnyH_take (i := 5) (v := ?v34) (by simp only [List.getElem?_toArray, List.getElem?_cons_succ, List.getElem?_cons_zero]; exact rfl) (by kernel_rfl) (by kernel_rfl) (by kernel_rfl) (by intro _ _ _ h; exact h) (Or.inl ⟨by rfl, ?y34⟩) hHeld ?_
  case y34 => (intro w hSw; (try dsimp only at hSw); go_simp; try (with_reducible rfl))
  try simp only [Act.put, List.setIfInBounds_toArray, List.set_cons_zero, List.set_cons_succ]
  refine wpAnyH_take (i := 6) (v := ?v35) (by simp only [List.getElem?_toArray, List.getElem?_cons_succ, List.getElem?_cons_zero]; exact rfl) (by kernel_rfl) (by kernel_rfl) (by kernel_rfl) (by intro _ _ _ h; exact h) (Or.inl ⟨by rfl, ?y35⟩) hHeld ?_
  case y35 => (intro w hSw; (try dsimp only at hSw); go_simp; try (with_reducible rfl))
  try simp only [Act.put, List.setIfInBounds_toArray, List.set_cons_zero, List.set_cons_succ]
  refine wpAnyH_take (i := 7) (v := ?v36) (by simp only [List.getElem?_toArray, List.getElem?_cons_succ, List.getElem?_cons_zero]; exact rfl) (by kernel_rfl) (by kernel_rfl) (by kernel_rfl) (by intro _ _ _ h; exact h) (Or.inl ⟨by rfl, ?y36⟩) hHeld ?_
  case y36 => (intro w hSw; (try dsimp only at hSw); go_simp; try (with_reducible rfl))
  try simp only [Act.put, List.setIfInBounds_toArray, List.set_cons_zero, List.set_cons_succ]
  refine wpAnyH_take (i := 8) (v := ?v37) (by simp only [List.getElem?_toArray, List.getElem?_cons_succ, List.getElem?_cons_zero]; exact rfl) (by kernel_rfl) (by kernel_rfl) (by kernel_rfl) (by intro _ _ _ h; exact h) (Or.inl ⟨by rfl, ?y37⟩) hHeld ?_
  case y37 => (intro w hSw; (try dsimp only at hSw); go_simp; try (with_reducible rfl))
  try simp only [Act.put, List.setIfInBounds_toArray, List.set_cons_zero, List.set_cons_succ]
  refine wpAnyH_take (i := 9) (v := ?v38) (by simp only [List.getElem?_toArray, List.getElem?_cons_succ, List.getElem?_cons_zero]; exact rfl) (by kernel_rfl) (by kernel_rfl) (by kernel_rfl) (by intro _ _ _ h; exact h) (Or.inl ⟨by rfl, ?y38⟩) hHeld ?_
  case y38 => (intro w hSw; (try dsimp only at hSw); go_simp; try (with_reducible rfl))
  try simp only [Act.put, List.setIfInBounds_toArray, List.set_cons_zero, List.set_cons_succ]
  refine wpAnyH_take (i := 10) (v := ?v39) (by simp only [List.getElem?_toArray, List.getElem?_cons_succ, List.getElem?_cons_zero]; exact rfl) (by kernel_rfl) (by kernel_rfl) (by kernel_rfl) (by intro _ _ _ h; exact h) (Or.inl ⟨by rfl, ?y39⟩) hHeld ?_
  case y39 => (intro w hSw; (try dsimp only at hSw); go_simp; try (with_reducible rfl))
  try simp only [Act.put, List.setIfInBounds_toArray, List.set_cons_zero, List.set_cons_succ]
  refine wpAnyH_take (i := 11) (v := ?v40) (by simp only [List.getElem?_toArray, List.getElem?_cons_succ, List.getElem?_cons_zero]; exact rfl) (by kernel_rfl) (by kernel_rfl) (by kernel_rfl) (by intro _ _ _ h; exact h) (Or.inl ⟨by rfl, ?y40⟩) hHeld ?_
  case y40 => (intro w hSw; (try dsimp only at hSw); go_simp; try (with_reducible rfl))
  try simp only [Act.put, List.setIfInBounds_toArray, List.set_cons_zero, List.set_cons_succ]
  refine wpAnyH_take (i := 12) (v := ?v41) (by simp only [List.getElem?_toArray, List.getElem?_cons_succ, List.getElem?_cons_zero]; exact rfl) (by kernel_rfl) (by kernel_rfl) (by kernel_rfl) (by intro _ _ _ h; exact h) (Or.inl ⟨by rfl, ?y41⟩) hHeld ?_
  case y41 => (intro w hSw; (try dsimp only at hSw); go_simp; try (with_reducible rfl))
  try simp only [Act.put, List.setIfInBounds_toArray, List.set_cons_zero, List.set_cons_succ]
  refine wpAnyH_take (i := 13) (v := ?v42) (by simp only [List.getElem?_toArray, List.getElem?_cons_succ, List.getElem?_cons_zero]; exact rfl) (by kernel_rfl) (by kernel_rfl) (by kernel_rfl) (by intro _ _ _ h; exact h) (Or.inl ⟨by rfl, ?y42⟩) hHeld ?_
  case y42 => (intro w hSw; (try dsimp only at hSw); go_simp; try (with_reducible rfl))
  try simp only [Act.put, List.setIfInBounds_toArray, List.set_cons_zero, List.set_cons_succ]
  refine wpAnyH_take (i := 14) (v := ?v43) (by simp only [List.getElem?_toArray, List.getElem?_cons_succ, List.getElem?_cons_zero]; exact rfl) (by kernel_rfl) (by kernel_rfl) (by kernel_rfl) (by intro _ _ _ h; exact h) (Or.inl ⟨by rfl, ?y43⟩) hHeld ?_
  case y43 => (intro w hSw; (try dsimp only at hSw); go_simp; try (with_reducible rfl))
  try simp only [Act.put, List.setIfInBounds_toArray, List.set_cons_zero, List.set_cons_succ]
  refine wpAnyH_take (i := 15) (v := ?v44) (by simp only [List.getElem?_toArray, List.getElem?_cons_succ, List.getElem?_cons_zero]; exact rfl) (by kernel_rfl) (by kernel_rfl) (by kernel_rfl) (by intro _ _ _ h; exact h) (Or.inl ⟨by rfl, ?y44⟩) hHeld ?_
  case y44 => (intro w hSw; (try dsimp only at hSw); go_simp; try (with_reducible rfl))
  try simp only [Act.put, List.setIfInBounds_toArray, List.set_cons_zero, List.set_cons_succ]
  refine wpAnyH_done (by kernel_rfl) ?_ _
  have hb2 : Below w.heap.size w w1.drew := hb1.drew
  have hM2 : w1.drew.ownsMap Tryz.prog 100 (plainElem Tryz.prog 3) mb cnt M := mapB hM ((Drawn.refl w1).drew.below _)
  have hml := hM2.lt
  clear hb1 hM c1 hcu hcv
  generalize w1.drew = w2 at *
  have hst2 := HE.keep F s w w2 hst (fun b hb => hb2.block b (hF b hb))
  have hk02 : Keeps (fun b => F b ∨ b = tb) w w2 := Keeps.ofBelow _ hb2
  have hbx2 := hbx.move (F' := F) hk02 (fun _ h => .inl h)
  have g02 : Grn w w2 F F tb to n := ⟨hk02, fun a ha => hb2.cell htt.2.2.1, fun a ha => hb2.frozen htt.2.2.1, fun _ h => .inl h, fun b hb => Nat.lt_of_lt_of_le (hF b hb) hb2.size⟩
  have htu2 := htu.grn g02
  have hF2 := g02.lt
  have hmF : ¬ F mb := fun hf => by have := hF mb hf; omega
  have hmt : mb ≠ tb := fun e => by have := htt.2.2.1; omega
  have hru2 := hru.below hb2 (Nat.le_refl _)
  have hrv2 := hrv.below hb2 (Nat.le_refl _)
  have hg0 : Grn w2 w2 F F tb to n := Grn.refl hF2
  have hs0 : RowKit.Hid (s = outG ef (E.drop (k + 1)) t u v 0 s) := Lib.hid rfl
  have hmx : max (lu : Int) 1 = ((max 1 lu : Nat) : Int) := by omega
  have hmy : max (lv : Int) 1 = ((max 1 lv : Nat) : Int) := by omega
  generalize hMU : max 1 lu = mu at *
  generalize hMV : max 1 lv = mv at *
  have HMV := Lib.hid (show max 1 (t.getD v []).length = mv by rw [← HLV.out]; exact hMV)
  have HMU := Lib.hid (show max 1 (t.getD u []).length = mu by rw [← HLU.out]; exact hMU)
  clear hk02 hru hrv htu hbx hst hqt hb2
  go_wp2
  go_loopw [69] (fun iv wr => ∃ (i : Nat) (s1 : σ) (F1 : Nat → Prop), i ≤ mu ∧ iv = .int .i64 (i : Int) ∧ RowKit.Hid (s1 = outG ef (E.drop (k + 1)) t u v i s) ∧ St F1 s1 wr ∧ Grn w2 wr F F1 tb to n) (fun iv _ => mu - (intOf iv).toNat)
  case atStart => exact ⟨0, s, F, Nat.zero_le _, rfl, hs0, hst2, hg0⟩
  case round =>
    clear hs0 hst2 hg0
    obtain ⟨i, s1, F1, hi, rfl, HS1, hst1, hg⟩ := hrel
    obtain ⟨wi, rfl⟩ : ∃ x : World, x = wr := ⟨_, rfl⟩
    by_cases hlt : i < mu
    case neg =>
      obtain rfl : i = mu := by omega
      go_wp2
      go_end0
      exact ⟨F1, rfl, by rw [HOUT.out, ← HS1.out]; exact hst1, g02.trans hg⟩
    have hi0 : RowKit.Hid (s1 = inG ef (E.drop (k + 1)) t u v i 0 s1) := Lib.hid rfl
    go_wp2
    go_loopw [75] (fun kv wr => ∃ (m : Nat) (s2 : σ) (F2 : Nat → Prop), m ≤ mv ∧ kv = .int .i64 (m : Int) ∧ RowKit.Hid (s2 = inG ef (E.drop (k + 1)) t u v i m s1) ∧ St F2 s2 wr ∧ Grn w2 wr F F2 tb to n) (fun kv _ => mv - (intOf kv).toNat)
    case atStart => exact ⟨0, s1, F1, Nat.zero_le _, rfl, hi0, hst1, hg⟩
    case round =>
      clear hi0 hst1 hg
      obtain ⟨m, s2, F2, hm, rfl, HS2, hst2, hg⟩ := hrel
      obtain ⟨wj, rfl⟩ : ∃ x : World, x = wr := ⟨_, rfl⟩
      by_cases hmt2 : m < mv
      case neg =>
        obtain rfl : m = mv := by omega
        have HS3 := Lib.hid (show s2 = outG ef (E.drop (k + 1)) t u v (i + 1) s by rw [outG_succ, HMV.out, ← HS1.out]; exact HS2.out)
        go_wp2
        go_roundw
        case rel => exact ⟨i + 1, s2, F2, by omega, by go_num, HS3, hst2, hg⟩
        case measure => (simp [intOf] <;> omega)
      have htuj := htu2.grn hg
      have hbxj := hbx2.move hg.keeps hg.sub
      have hmbj : wj.heap[mb]? = w2.heap[mb]? := hg.keeps.block mb hml (fun hc => by rcases hc with h | h; exact hmF h; exact hmt h)
      have c1j := hbxj.c1
      have hlu16 := rot_row ht.rot u
      have hlv16 := rot_row ht.rot v
      have hi16 : i ≤ 16 := by omega
      have hm16 : m ≤ 16 := by omega
      have HP1 := Lib.hid (put_any (w := wj.drew) (u := v) (i := i) huv1 hi16 hlu16 c1j (htuj.cell u huv1) (htuj.fz u huv1) (htuj.row u huv1).drew)
      by_cases hz : lu = 0
      · have hz0 : ¬ 0 < lu := by omega
        have hz1 : ¬ (0 : Int) < (lu : Int) := by omega
        have hok : OkI t u v i m := .inl (List.eq_nil_of_length_eq_zero (HLU.out.symm.trans hz))
        clear hz
        have HS3 := Lib.hid (show inG ef (E.drop (k + 1)) t u v i (m + 1) s1 = (rawI (E.drop (k + 1)) (stepE t u v i m)).foldl (fun s x => ef x s) s2 by rw [inG_succ, if_pos hok, HS2.out])
        go_wp2
        refine wp_region_held_drew (S := (fun _ => True)) (by kernel_rfl) ?_ (fun hHeld => ?_)
        · trivial
        refine wpAnyH_take (i := 0) (v := ?v45) (by simp only [List.getElem?_toArray, List.getElem?_cons_zero]; exact rfl) (by kernel_rfl) (by kernel_rfl) (by kernel_rfl) (by intro _ _ _ h; exact h) (Or.inl ⟨by rfl, ?y45⟩) hHeld ?_
        case y45 => (intro w hSw; (try dsimp only at hSw); go_simp; try (with_reducible rfl))
        try simp only [Act.put, List.setIfInBounds_toArray, List.set_cons_zero, List.set_cons_succ]
        refine wpAnyH_take (i := 1) (v := ?v46) (by simp only [List.getElem?_toArray, List.getElem?_cons_succ, List.getElem?_cons_zero]; exact rfl) (by kernel_rfl) (by kernel_rfl) (by kernel_rfl) (by intro _ _ _ h; exact h) (Or.inl ⟨by rfl, ?y46⟩) hHeld ?_
        case y46 => (intro w hSw; (try dsimp only at hSw); go_simp; try (with_reducible rfl))
        try simp only [Act.put, List.setIfInBounds_toArray, List.set_cons_zero, List.set_cons_succ]
        refine wpAnyH_take (i := 2) (v := ?v47) (by simp only [List.getElem?_toArray, List.getElem?_cons_succ, List.getElem?_cons_zero]; exact rfl) (by kernel_rfl) (by kernel_rfl) (by kernel_rfl) (by intro _ _ _ h; exact h) (Or.inl ⟨by rfl, ?y47⟩) hHeld ?_
        case y47 => (intro w hSw; (try dsimp only at hSw); go_simp; try (with_reducible rfl))
        try simp only [Act.put, List.setIfInBounds_toArray, List.set_cons_zero, List.set_cons_succ]
        refine wpAnyH_take (i := 3) (v := ?v48) (by simp only [List.getElem?_toArray, List.getElem?_cons_succ, List.getElem?_cons_zero]; exact rfl) (by kernel_rfl) (by kernel_rfl) (by kernel_rfl) (by intro _ _ _ h; exact h) (Or.inl ⟨by rfl, ?y48⟩) hHeld ?_
        case y48 => (intro w hSw; (try dsimp only at hSw); go_simp; try (with_reducible rfl))
        try simp only [Act.put, List.setIfInBounds_toArray, List.set_cons_zero, List.set_cons_succ]
        refine wpAnyH_take (i := 4) (by simp only [List.getElem?_toArray, List.getElem?_cons_succ, List.getElem?_cons_zero]; exact rfl) (by kernel_rfl) (by kernel_rfl) (by kernel_rfl) (by intro _ _ _ h; exact h) (Or.inr ⟨by rfl, rfl⟩) hHeld ?_
        try simp only [Act.put, List.setIfInBounds_toArray, List.set_cons_zero, List.set_cons_succ]
        refine wpAnyH_take (i := 5) (by simp only [List.getElem?_toArray, List.getElem?_cons_succ, List.getElem?_cons_zero]; exact rfl) (by kernel_rfl) (by kernel_rfl) (by kernel_rfl) (by intro _ _ _ h; exact h) (Or.inr ⟨by rfl, rfl⟩) hHeld ?_
        try simp only [Act.put, List.setIfInBounds_toArray, List.set_cons_zero, List.set_cons_succ]
        refine wpAnyH_take (i := 6) (by simp only [List.getElem?_toArray, List.getElem?_cons_succ, List.getElem?_cons_zero]; exact rfl) (by kernel_rfl) (by kernel_rfl) (by kernel_rfl) (by intro _ _ _ h; exact h) (Or.inr ⟨by rfl, rfl⟩) hHeld ?_
        try simp only [Act.put, List.setIfInBounds_toArray, List.set_cons_zero, List.set_cons_succ]
        refine wpAnyH_take (i := 7) (v := ?v52) (by simp only [List.getElem?_toArray, List.getElem?_cons_succ, List.getElem?_cons_zero]; exact rfl) (by kernel_rfl) (by kernel_rfl) (by kernel_rfl) (by intro _ _ _ h; exact h) (Or.inl ⟨by rfl, ?y52⟩) hHeld ?_
        case y52 => (intro w hSw; (try dsimp only at hSw); go_simp; try (with_reducible rfl))
        try simp only [Act.put, List.setIfInBounds_toArray, List.set_cons_zero, List.set_cons_succ]
        refine wpAnyH_take (i := 8) (v := ?v53) (by simp only [List.getElem?_toArray, List.getElem?_cons_succ, List.getElem?_cons_zero]; exact rfl) (by kernel_rfl) (by kernel_rfl) (by kernel_rfl) (by intro _ _ _ h; exact h) (Or.inl ⟨by rfl, ?y53⟩) hHeld ?_
        case y53 => (intro w hSw; (try dsimp only at hSw); go_simp; try (with_reducible rfl))
        try simp only [Act.put, List.setIfInBounds_toArray, List.set_cons_zero, List.set_cons_succ]
        refine wpAnyH_take (i := 9) (by simp only [List.getElem?_toArray, List.getElem?_cons_succ, List.getElem?_cons_zero]; exact rfl) (by kernel_rfl) (by kernel_rfl) (by kernel_rfl) (by intro _ _ _ h; exact h) (Or.inr ⟨by rfl, rfl⟩) hHeld ?_
        try simp only [Act.put, List.setIfInBounds_toArray, List.set_cons_zero, List.set_cons_succ]
        refine wpAnyH_take (i := 10) (by simp only [List.getElem?_toArray, List.getElem?_cons_succ, List.getElem?_cons_zero]; exact rfl) (by kernel_rfl) (by kernel_rfl) (by kernel_rfl) (by intro _ _ _ h; exact h) (Or.inr ⟨by rfl, rfl⟩) hHeld ?_
        try simp only [Act.put, List.setIfInBounds_toArray, List.set_cons_zero, List.set_cons_succ]
        refine wpAnyH_take (i := 11) (by simp only [List.getElem?_toArray, List.getElem?_cons_succ, List.getElem?_cons_zero]; exact rfl) (by kernel_rfl) (by kernel_rfl) (by kernel_rfl) (by intro _ _ _ h; exact h) (Or.inr ⟨by rfl, rfl⟩) hHeld ?_
        try simp only [Act.put, List.setIfInBounds_toArray, List.set_cons_zero, List.set_cons_succ]
        refine wpAnyH_take (i := 12) (by simp only [List.getElem?_toArray, List.getElem?_cons_succ, List.getElem?_cons_zero]; exact rfl) (by kernel_rfl) (by kernel_rfl) (by kernel_rfl) (by intro _ _ _ h; exact h) (Or.inr ⟨by rfl, rfl⟩) hHeld ?_
        try simp only [Act.put, List.setIfInBounds_toArray, List.set_cons_zero, List.set_cons_succ]
        refine wpAnyH_take (i := 13) (by simp only [List.getElem?_toArray, List.getElem?_cons_succ, List.getElem?_cons_zero]; exact rfl) (by kernel_rfl) (by kernel_rfl) (by kernel_rfl) (by intro _ _ _ h; exact h) (Or.inr ⟨by rfl, rfl⟩) hHeld ?_
        try simp only [Act.put, List.setIfInBounds_toArray, List.set_cons_zero, List.set_cons_succ]
        refine wpAnyH_take (i := 14) (by simp only [List.getElem?_toArray, List.getElem?_cons_succ, List.getElem?_cons_zero]; exact rfl) (by kernel_rfl) (by kernel_rfl) (by kernel_rfl) (by intro _ _ _ h; exact h) (Or.inr ⟨by rfl, rfl⟩) hHeld ?_
        try simp only [Act.put, List.setIfInBounds_toArray, List.set_cons_zero, List.set_cons_succ]
        refine wpAnyH_take (i := 15) (by simp only [List.getElem?_toArray, List.getElem?_cons_succ, List.getElem?_cons_zero]; exact rfl) (by kernel_rfl) (by kernel_rfl) (by kernel_rfl) (by intro _ _ _ h; exact h) (Or.inr ⟨by rfl, rfl⟩) hHeld ?_
        try simp only [Act.put, List.setIfInBounds_toArray, List.set_cons_zero, List.set_cons_succ]
        refine wpAnyH_take (i := 16) (by simp only [List.getElem?_toArray, List.getElem?_cons_succ, List.getElem?_cons_zero]; exact rfl) (by kernel_rfl) (by kernel_rfl) (by kernel_rfl) (by intro _ _ _ h; exact h) (Or.inr ⟨by rfl, rfl⟩) hHeld ?_
        try simp only [Act.put, List.setIfInBounds_toArray, List.set_cons_zero, List.set_cons_succ]
        refine wpAnyH_take (i := 17) (by simp only [List.getElem?_toArray, List.getElem?_cons_succ, List.getElem?_cons_zero]; exact rfl) (by kernel_rfl) (by kernel_rfl) (by kernel_rfl) (by intro _ _ _ h; exact h) (Or.inr ⟨by rfl, rfl⟩) hHeld ?_
        try simp only [Act.put, List.setIfInBounds_toArray, List.set_cons_zero, List.set_cons_succ]
        refine wpAnyH_take (i := 18) (by simp only [List.getElem?_toArray, List.getElem?_cons_succ, List.getElem?_cons_zero]; exact rfl) (by kernel_rfl) (by kernel_rfl) (by kernel_rfl) (by intro _ _ _ h; exact h) (Or.inr ⟨by rfl, rfl⟩) hHeld ?_
        try simp only [Act.put, List.setIfInBounds_toArray, List.set_cons_zero, List.set_cons_succ]
        refine wpAnyH_take (i := 19) (by simp only [List.getElem?_toArray, List.getElem?_cons_succ, List.getElem?_cons_zero]; exact rfl) (by kernel_rfl) (by kernel_rfl) (by kernel_rfl) (by intro _ _ _ h; exact h) (Or.inr ⟨by rfl, rfl⟩) hHeld ?_
        try simp only [Act.put, List.setIfInBounds_toArray, List.set_cons_zero, List.set_cons_succ]
        refine wpAnyH_take (i := 20) (by simp only [List.getElem?_toArray, List.getElem?_cons_succ, List.getElem?_cons_zero]; exact rfl) (by kernel_rfl) (by kernel_rfl) (by kernel_rfl) (by intro _ _ _ h; exact h) (Or.inr ⟨by rfl, rfl⟩) hHeld ?_
        try simp only [Act.put, List.setIfInBounds_toArray, List.set_cons_zero, List.set_cons_succ]
        refine wpAnyH_take (i := 21) (by simp only [List.getElem?_toArray, List.getElem?_cons_succ, List.getElem?_cons_zero]; exact rfl) (by kernel_rfl) (by kernel_rfl) (by kernel_rfl) (by intro _ _ _ h; exact h) (Or.inr ⟨by rfl, rfl⟩) hHeld ?_
        try simp only [Act.put, List.setIfInBounds_toArray, List.set_cons_zero, List.set_cons_succ]
        refine wpAnyH_take (i := 22) (by simp only [List.getElem?_toArray, List.getElem?_cons_succ, List.getElem?_cons_zero]; exact rfl) (by kernel_rfl) (by kernel_rfl) (by kernel_rfl) (by intro _ _ _ h; exact h) (Or.inr ⟨by rfl, rfl⟩) hHeld ?_
        try simp only [Act.put, List.setIfInBounds_toArray, List.set_cons_zero, List.set_cons_succ]
        refine wpAnyH_take (i := 23) (by simp only [List.getElem?_toArray, List.getElem?_cons_succ, List.getElem?_cons_zero]; exact rfl) (by kernel_rfl) (by kernel_rfl) (by kernel_rfl) (by intro _ _ _ h; exact h) (Or.inr ⟨by rfl, rfl⟩) hHeld ?_
        try simp only [Act.put, List.setIfInBounds_toArray, List.set_cons_zero, List.set_cons_succ]
        refine wpAnyH_take (i := 24) (by simp only [List.getElem?_toArray, List.getElem?_cons_succ, List.getElem?_cons_zero]; exact rfl) (by kernel_rfl) (by kernel_rfl) (by kernel_rfl) (by intro _ _ _ h; exact h) (Or.inr ⟨by rfl, rfl⟩) hHeld ?_
        try simp only [Act.put, List.setIfInBounds_toArray, List.set_cons_zero, List.set_cons_succ]
        refine wpAnyH_take (i := 25) (by simp only [List.getElem?_toArray, List.getElem?_cons_succ, List.getElem?_cons_zero]; exact rfl) (by kernel_rfl) (by kernel_rfl) (by kernel_rfl) (by intro _ _ _ h; exact h) (Or.inr ⟨by rfl, rfl⟩) hHeld ?_
        try simp only [Act.put, List.setIfInBounds_toArray, List.set_cons_zero, List.set_cons_succ]
        refine wpAnyH_take (i := 26) (v := ?v71) (by simp only [List.getElem?_toArray, List.getElem?_cons_succ, List.getElem?_cons_zero]; exact rfl) (by kernel_rfl) (by kernel_rfl) (by kernel_rfl) (by intro _ _ _ h; exact h) (Or.inl ⟨by rfl, ?y71⟩) hHeld ?_
        case y71 => (intro w hSw; (try dsimp only at hSw); go_simp; try (with_reducible rfl))
        try simp only [Act.put, List.setIfInBounds_toArray, List.set_cons_zero, List.set_cons_succ]
        refine wpAnyH_done (by kernel_rfl) ?_ _
        go_wp2_with (go_at_call 116; with_reducible refine HP1.out.mono ?_; rintro e wA ⟨r1, W1, rfl, rfl, ho1, hb1⟩)
        have hb1 : Below wj.heap.size wj W1 := ((Below.refl wj.heap.size wj).drew).trans hb1
        have hT1 := htuj.put (W := W1) (r := r1) (row := insN (t.getD u []) i v) hb1 ((ho1.ints (xs := natsI (insN (t.getD u []) i v)) (by rw [insN_len]; omega)).weak fun b hb => ho1.lt b hb) huv1 ht.len hg.lt hbxj.tt.2.2.1
        have hK1 := keeps_put (F := F2) (tb := tb) (o := to + u) (r := r1) hb1
        have hB1 := hbxj.move (F' := F2) hK1 (fun _ h => .inl h)
        have hS1 := HE.keep F2 s2 wj (W1.setCell ⟨tb, to + u, none⟩ r1) hst2 (fun b hb => (heap_set_o (tb := tb) (b := b) (fun e => hbxj.tt.2.2.2 (by rw [← e]; exact hb))).trans (hb1.block b (hg.lt b hb)))
        have hL1 : ∀ b, F2 b → b < (W1.setCell ⟨tb, to + u, none⟩ r1).heap.size := fun b hb => Nat.lt_of_lt_of_le (hg.lt b hb) hK1.size
        clear hb1 ho1
        generalize W1.setCell ⟨tb, to + u, none⟩ r1 = wA at *
        have hrow2 := hT1.row v huv2
        rw [getD_set t u _ (by rw [ht.len]; exact huv1) v, if_neg (fun e => huv3 e.symm)] at hrow2
        have hp2 := put_any (w := wA) (u := u) (i := m) huv2 (by omega) hlv16 hB1.c1 (hT1.cell v huv2) (hT1.fz v huv2) hrow2
        go_wp2_with (go_at_call 116; with_reducible refine hp2.mono ?_; rintro e wB ⟨r2, W2, rfl, rfl, ho2, hb2⟩)
        have hT2 := hT1.put (W := W2) (r := r2) (row := insN (t.getD v []) m u) hb2 ((ho2.ints (xs := natsI (insN (t.getD v []) m u)) (by rw [insN_len]; omega)).weak fun b hb => ho2.lt b hb) huv2 (by rw [List.length_set]; exact ht.len) hL1 hB1.tt.2.2.1
        have hK2 := keeps_put (F := F2) (tb := tb) (o := to + v) (r := r2) hb2
        have hB2 := hB1.move (F' := F2) hK2 (fun _ h => .inl h)
        have hS2 := HE.keep F2 s2 wA (W2.setCell ⟨tb, to + v, none⟩ r2) hS1 (fun b hb => (heap_set_o (tb := tb) (b := b) (fun e => hbxj.tt.2.2.2 (by rw [← e]; exact hb))).trans (hb2.block b (hL1 b hb)))
        have hL2 : ∀ b, F2 b → b < (W2.setCell ⟨tb, to + v, none⟩ r2).heap.size := fun b hb => Nat.lt_of_lt_of_le (hL1 b hb) hK2.size
        have hK12 := hK1.trans hK2 fun _ _ h => h
        clear hb2 ho2 hp2 hrow2 hS1 hK1 hK2
        generalize W2.setCell ⟨tb, to + v, none⟩ r2 = wB at *
        have hih := HIH.out _ s2 wB F2 _ (HST.out i m) hS2 hB2 hT2 hL2
        rw [show ((k + 1 : Nat) : Int) = (k : Int) + 1 from rfl] at hih
        go_wp2_with (go_at_call 89; with_reducible refine hih.mono ?_; rintro e w3 ⟨F3, rfl, hst4, g3⟩)
        have g3 : Grn wB w3.drew F2 F3 tb to n := g3.dr
        have hGb := Grn.back htuj hK12 hT2 g3 huv1 huv2
        have hT3 := hT2.grn g3
        have c13 := (hB2.move g3.keeps g3.sub).c1
        have k3 := hT3.cell u huv1
        have f3 := hT3.fz u huv1
        have f4 := hT3.fz v huv2
        have k4 := hT3.cell v huv2
        have hF3 : ¬ F3 tb := (hB2.move g3.keeps g3.sub).tt.2.2.2
        have hS4 := HE.keep F3 _ w3 ((w3.drew.setCell ⟨tb, to + u, none⟩ (fv u)).setCell ⟨tb, to + v, none⟩ (fv v)) hst4 (fun b hb => (heap_set_o (tb := tb) (b := b) (fun e => hF3 (by rw [← e]; exact hb))).trans (heap_set_o (tb := tb) (b := b) (fun e => hF3 (by rw [← e]; exact hb))))
        rw [← HS3.out] at hS4
        have k5 : (w3.setCell ⟨tb, to + u, none⟩ (fv u)).cell? ⟨tb, to + v, none⟩ = some (upV (upV fv u r1) v r2 v) := (World.cell?_setCell_other _ _ _ _ (addr_ne fun e => huv3 e.symm)).trans k4
        have f5 : (w3.setCell ⟨tb, to + u, none⟩ (fv u)).frozen? ⟨tb, to + v, none⟩ = false := (World.frozen?_setCell _ _ _ _).trans f4
        have k3 : w3.cell? ⟨tb, to + u, none⟩ = some (upV (upV fv u r1) v r2 u) := k3
        have f3 : w3.frozen? ⟨tb, to + u, none⟩ = false := f3
        rw [hue] at k5 f5
        rw [hue, hve] at hGb hS4
        clear hih hT1 hT2 hB1 hB2 hS2 hL1 hL2 hT3 g3 hst4
        generalize hs3 : inG ef (E.drop (k + 1)) t u v i (m + 1) s1 = s3 at hS4
        have HS3c : RowKit.Hid (s3 = inG ef (E.drop (k + 1)) t u v i (m + 1) s1) := Lib.hid hs3.symm
        clear hs3 HS3
        go_wp2
        refine wp_region_late (S := (fun w' => w'.cell? ⟨xb, 1, none⟩ = some (.slice (some ⟨tb, to, none⟩) n tc))) (late := [13, 15]) (by kernel_rfl) ?_ (fun hHeld => ?_)
        · first | assumption | (simp [*, go_sem])
        refine wpLate_take (i := 0) (v := ?v72) (by simp only [List.getElem?_toArray, List.getElem?_cons_zero]; exact rfl) (by kernel_rfl) (by kernel_rfl) (by kernel_rfl) (by intro _ _ _ h; exact h) (Or.inl ⟨by rfl, ?y72⟩) ?_
        case y72 => (intro w _; go_simp; try (with_reducible rfl))
        try simp only [Act.put, List.setIfInBounds_toArray, List.set_cons_zero, List.set_cons_succ]
        refine wpLate_take (i := 1) (v := ?v73) (by simp only [List.getElem?_toArray, List.getElem?_cons_succ, List.getElem?_cons_zero]; exact rfl) (by kernel_rfl) (by kernel_rfl) (by kernel_rfl) (by intro _ _ _ h; exact h) (Or.inl ⟨by rfl, ?y73⟩) ?_
        case y73 => (intro w _; go_simp; try (with_reducible rfl))
        try simp only [Act.put, List.setIfInBounds_toArray, List.set_cons_zero, List.set_cons_succ]
        refine wpLate_take (i := 2) (v := ?v74) (by simp only [List.getElem?_toArray, List.getElem?_cons_succ, List.getElem?_cons_zero]; exact rfl) (by kernel_rfl) (by kernel_rfl) (by kernel_rfl) (by intro _ _ _ h; exact h) (Or.inl ⟨by rfl, ?y74⟩) ?_
        case y74 => (intro w _; go_simp; try (with_reducible rfl))
        try simp only [Act.put, List.setIfInBounds_toArray, List.set_cons_zero, List.set_cons_succ]
        refine wpLate_load (i := 3) (v := ?v75) (by simp only [List.getElem?_toArray, List.getElem?_cons_succ, List.getElem?_cons_zero]; exact rfl) (by kernel_rfl) (by kernel_rfl) (by kernel_rfl) (by kernel_rfl) (by intro _ _ _ h; exact h) (Or.inl ⟨by rfl, ?y75⟩) hHeld ?_
        case y75 => (intro w hSw; (try dsimp only at hSw); go_simp; try (with_reducible rfl))
        try simp only [Act.put, List.setIfInBounds_toArray, List.set_cons_zero, List.set_cons_succ]
        refine wpLate_take (i := 4) (v := ?v76) (by simp only [List.getElem?_toArray, List.getElem?_cons_succ, List.getElem?_cons_zero]; exact rfl) (by kernel_rfl) (by kernel_rfl) (by kernel_rfl) (by intro _ _ _ h; exact h) (Or.inl ⟨by rfl, ?y76⟩) ?_
        case y76 => (intro w _; go_simp; try (with_reducible rfl))
        try simp only [Act.put, List.setIfInBounds_toArray, List.set_cons_zero, List.set_cons_succ]
        refine wpLate_take (i := 5) (v := ?v77) (by simp only [List.getElem?_toArray, List.getElem?_cons_succ, List.getElem?_cons_zero]; exact rfl) (by kernel_rfl) (by kernel_rfl) (by kernel_rfl) (by intro _ _ _ h; exact h) (Or.inl ⟨by rfl, ?y77⟩) ?_
        case y77 => (intro w _; go_simp; try (with_reducible rfl))
        try simp only [Act.put, List.setIfInBounds_toArray, List.set_cons_zero, List.set_cons_succ]
        refine wpLate_take (i := 6) (v := ?v78) (by simp only [List.getElem?_toArray, List.getElem?_cons_succ, List.getElem?_cons_zero]; exact rfl) (by kernel_rfl) (by kernel_rfl) (by kernel_rfl) (by intro _ _ _ h; exact h) (Or.inl ⟨by rfl, ?y78⟩) ?_
        case y78 => (intro w _; go_simp; try (with_reducible rfl))
        try simp only [Act.put, List.setIfInBounds_toArray, List.set_cons_zero, List.set_cons_succ]
        refine wpLate_take (i := 7) (v := ?v79) (by simp only [List.getElem?_toArray, List.getElem?_cons_succ, List.getElem?_cons_zero]; exact rfl) (by kernel_rfl) (by kernel_rfl) (by kernel_rfl) (by intro _ _ _ h; exact h) (Or.inl ⟨by rfl, ?y79⟩) ?_
        case y79 => (intro w _; go_simp; try (with_reducible rfl))
        try simp only [Act.put, List.setIfInBounds_toArray, List.set_cons_zero, List.set_cons_succ]
        refine wpLate_load (i := 8) (v := ?v80) (by simp only [List.getElem?_toArray, List.getElem?_cons_succ, List.getElem?_cons_zero]; exact rfl) (by kernel_rfl) (by kernel_rfl) (by kernel_rfl) (by kernel_rfl) (by intro _ _ _ h; exact h) (Or.inl ⟨by rfl, ?y80⟩) hHeld ?_
        case y80 => (intro w hSw; (try dsimp only at hSw); go_simp; try (with_reducible rfl))
        try simp only [Act.put, List.setIfInBounds_toArray, List.set_cons_zero, List.set_cons_succ]
        refine wpLate_take (i := 9) (v := ?v81) (by simp only [List.getElem?_toArray, List.getElem?_cons_succ, List.getElem?_cons_zero]; exact rfl) (by kernel_rfl) (by kernel_rfl) (by kernel_rfl) (by intro _ _ _ h; exact h) (Or.inl ⟨by rfl, ?y81⟩) ?_
        case y81 => (intro w _; go_simp; try (with_reducible rfl))
        try simp only [Act.put, List.setIfInBounds_toArray, List.set_cons_zero, List.set_cons_succ]
        refine wpLate_take (i := 10) (v := ?v82) (by simp only [List.getElem?_toArray, List.getElem?_cons_succ, List.getElem?_cons_zero]; exact rfl) (by kernel_rfl) (by kernel_rfl) (by kernel_rfl) (by intro _ _ _ h; exact h) (Or.inl ⟨by rfl, ?y82⟩) ?_
        case y82 => (intro w _; go_simp; try (with_reducible rfl))
        try simp only [Act.put, List.setIfInBounds_toArray, List.set_cons_zero, List.set_cons_succ]
        refine wpLate_take (i := 11) (v := ?v83) (by simp only [List.getElem?_toArray, List.getElem?_cons_succ, List.getElem?_cons_zero]; exact rfl) (by kernel_rfl) (by kernel_rfl) (by kernel_rfl) (by intro _ _ _ h; exact h) (Or.inl ⟨by rfl, ?y83⟩) ?_
        case y83 => (intro w _; go_simp; try (with_reducible rfl))
        try simp only [Act.put, List.setIfInBounds_toArray, List.set_cons_zero, List.set_cons_succ]
        refine wpLate_take (i := 12) (v := ?v84) (by simp only [List.getElem?_toArray, List.getElem?_cons_succ, List.getElem?_cons_zero]; exact rfl) (by kernel_rfl) (by kernel_rfl) (by kernel_rfl) (by intro _ _ _ h; exact h) (Or.inl ⟨by rfl, ?y84⟩) ?_
        case y84 => (intro w _; go_simp; try (with_reducible rfl))
        try simp only [Act.put, List.setIfInBounds_toArray, List.set_cons_zero, List.set_cons_succ]
        refine wpLate_late (i := 13) (by kernel_rfl) (by simp only [List.getElem?_toArray, List.getElem?_cons_succ, List.getElem?_cons_zero]; exact rfl) (by kernel_rfl) (fun K hK => ?_)
        go_simp
        skip
        try dsimp only
        refine hK.out _ _ ?_
        clear hK K
        try simp only [Act.put, List.setIfInBounds_toArray, List.set_cons_zero, List.set_cons_succ]
        refine wpLate_take (i := 14) (v := ?v87) (by simp only [List.getElem?_toArray, List.getElem?_cons_succ, List.getElem?_cons_zero]; exact rfl) (by kernel_rfl) (by kernel_rfl) (by kernel_rfl) (by intro _ _ _ h; exact h) (Or.inl ⟨by rfl, ?y87⟩) ?_
        case y87 => (intro w _; go_simp; try (with_reducible rfl))
        try simp only [Act.put, List.setIfInBounds_toArray, List.set_cons_zero, List.set_cons_succ]
        refine wpLate_late (i := 15) (by kernel_rfl) (by simp only [List.getElem?_toArray, List.getElem?_cons_succ, List.getElem?_cons_zero]; exact rfl) (by kernel_rfl) (fun K hK => ?_)
        go_simp
        skip
        try dsimp only
        refine hK.out _ _ ?_
        clear hK K
        try simp only [Act.put, List.setIfInBounds_toArray, List.set_cons_zero, List.set_cons_succ]
        refine wpLate_done (by kernel_rfl) ?_ _
        go_wp2
        go_roundw
        case rel => exact ⟨m + 1, s3, F3, by omega, by go_num, HS3c, hS4, hg.trans hGb⟩
        case measure => (simp [intOf] <;> omega)
      by_cases hz2 : lv = 0
      · have hz0 : ¬ 0 < lv := by omega
        have hz1 : ¬ (0 : Int) < (lv : Int) := by omega
        have hup : 0 < lu := by omega
        have hupI : (0 : Int) < lu := by omega
        have hok : OkI t u v i m := .inr (.inl (List.eq_nil_of_length_eq_zero (HLV.out.symm.trans hz2)))
        clear hz2 hz
        have HS3 := Lib.hid (show inG ef (E.drop (k + 1)) t u v i (m + 1) s1 = (rawI (E.drop (k + 1)) (stepE t u v i m)).foldl (fun s x => ef x s) s2 by rw [inG_succ, if_pos hok, HS2.out])
        go_wp2
        refine wp_region_held_drew (S := (fun _ => True)) (by kernel_rfl) ?_ (fun hHeld => ?_)
        · trivial
        refine wpAnyH_take (i := 0) (v := ?v90) (by simp only [List.getElem?_toArray, List.getElem?_cons_zero]; exact rfl) (by kernel_rfl) (by kernel_rfl) (by kernel_rfl) (by intro _ _ _ h; exact h) (Or.inl ⟨by rfl, ?y90⟩) hHeld ?_
        case y90 => (intro w hSw; (try dsimp only at hSw); go_simp; try (with_reducible rfl))
        try simp only [Act.put, List.setIfInBounds_toArray, List.set_cons_zero, List.set_cons_succ]
        refine wpAnyH_take (i := 1) (v := ?v91) (by simp only [List.getElem?_toArray, List.getElem?_cons_succ, List.getElem?_cons_zero]; exact rfl) (by kernel_rfl) (by kernel_rfl) (by kernel_rfl) (by intro _ _ _ h; exact h) (Or.inl ⟨by rfl, ?y91⟩) hHeld ?_
        case y91 => (intro w hSw; (try dsimp only at hSw); go_simp; try (with_reducible rfl))
        try simp only [Act.put, List.setIfInBounds_toArray, List.set_cons_zero, List.set_cons_succ]
        refine wpAnyH_take (i := 2) (v := ?v92) (by simp only [List.getElem?_toArray, List.getElem?_cons_succ, List.getElem?_cons_zero]; exact rfl) (by kernel_rfl) (by kernel_rfl) (by kernel_rfl) (by intro _ _ _ h; exact h) (Or.inl ⟨by rfl, ?y92⟩) hHeld ?_
        case y92 => (intro w hSw; (try dsimp only at hSw); go_simp; try (with_reducible rfl))
        try simp only [Act.put, List.setIfInBounds_toArray, List.set_cons_zero, List.set_cons_succ]
        refine wpAnyH_take (i := 3) (v := ?v93) (by simp only [List.getElem?_toArray, List.getElem?_cons_succ, List.getElem?_cons_zero]; exact rfl) (by kernel_rfl) (by kernel_rfl) (by kernel_rfl) (by intro _ _ _ h; exact h) (Or.inl ⟨by rfl, ?y93⟩) hHeld ?_
        case y93 => (intro w hSw; (try dsimp only at hSw); go_simp; try (with_reducible rfl))
        try simp only [Act.put, List.setIfInBounds_toArray, List.set_cons_zero, List.set_cons_succ]
        refine wpAnyH_take (i := 4) (v := ?v94) (by simp only [List.getElem?_toArray, List.getElem?_cons_succ, List.getElem?_cons_zero]; exact rfl) (by kernel_rfl) (by kernel_rfl) (by kernel_rfl) (by intro _ _ _ h; exact h) (Or.inl ⟨by rfl, ?y94⟩) hHeld ?_
        case y94 => (intro w hSw; (try dsimp only at hSw); go_simp; try (with_reducible rfl))
        try simp only [Act.put, List.setIfInBounds_toArray, List.set_cons_zero, List.set_cons_succ]
        refine wpAnyH_take (i := 5) (v := ?v95) (by simp only [List.getElem?_toArray, List.getElem?_cons_succ, List.getElem?_cons_zero]; exact rfl) (by kernel_rfl) (by kernel_rfl) (by kernel_rfl) (by intro _ _ _ h; exact h) (Or.inl ⟨by rfl, ?y95⟩) hHeld ?_
        case y95 => (intro w hSw; (try dsimp only at hSw); go_simp; try (with_reducible rfl))
        try simp only [Act.put, List.setIfInBounds_toArray, List.set_cons_zero, List.set_cons_succ]
        refine wpAnyH_take (i := 6) (v := ?v96) (by simp only [List.getElem?_toArray, List.getElem?_cons_succ, List.getElem?_cons_zero]; exact rfl) (by kernel_rfl) (by kernel_rfl) (by kernel_rfl) (by intro _ _ _ h; exact h) (Or.inl ⟨by rfl, ?y96⟩) hHeld ?_
        case y96 => (intro w hSw; (try dsimp only at hSw); go_simp; try (with_reducible rfl))
        try simp only [Act.put, List.setIfInBounds_toArray, List.set_cons_zero, List.set_cons_succ]
        refine wpAnyH_take (i := 7) (v := ?v97) (by simp only [List.getElem?_toArray, List.getElem?_cons_succ, List.getElem?_cons_zero]; exact rfl) (by kernel_rfl) (by kernel_rfl) (by kernel_rfl) (by intro _ _ _ h; exact h) (Or.inl ⟨by rfl, ?y97⟩) hHeld ?_
        case y97 => (intro w hSw; (try dsimp only at hSw); go_simp; try (with_reducible rfl))
        try simp only [Act.put, List.setIfInBounds_toArray, List.set_cons_zero, List.set_cons_succ]
        refine wpAnyH_take (i := 8) (v := ?v98) (by simp only [List.getElem?_toArray, List.getElem?_cons_succ, List.getElem?_cons_zero]; exact rfl) (by kernel_rfl) (by kernel_rfl) (by kernel_rfl) (by intro _ _ _ h; exact h) (Or.inl ⟨by rfl, ?y98⟩) hHeld ?_
        case y98 => (intro w hSw; (try dsimp only at hSw); go_simp; try (with_reducible rfl))
        try simp only [Act.put, List.setIfInBounds_toArray, List.set_cons_zero, List.set_cons_succ]
        refine wpAnyH_take (i := 9) (by simp only [List.getElem?_toArray, List.getElem?_cons_succ, List.getElem?_cons_zero]; exact rfl) (by kernel_rfl) (by kernel_rfl) (by kernel_rfl) (by intro _ _ _ h; exact h) (Or.inr ⟨by rfl, rfl⟩) hHeld ?_
        try simp only [Act.put, List.setIfInBounds_toArray, List.set_cons_zero, List.set_cons_succ]
        refine wpAnyH_take (i := 10) (by simp only [List.getElem?_toArray, List.getElem?_cons_succ, List.getElem?_cons_zero]; exact rfl) (by kernel_rfl) (by kernel_rfl) (by kernel_rfl) (by intro _ _ _ h; exact h) (Or.inr ⟨by rfl, rfl⟩) hHeld ?_
        try simp only [Act.put, List.setIfInBounds_toArray, List.set_cons_zero, List.set_cons_succ]
        refine wpAnyH_take (i := 11) (by simp only [List.getElem?_toArray, List.getElem?_cons_succ, List.getElem?_cons_zero]; exact rfl) (by kernel_rfl) (by kernel_rfl) (by kernel_rfl) (by intro _ _ _ h; exact h) (Or.inr ⟨by rfl, rfl⟩) hHeld ?_
        try simp only [Act.put, List.setIfInBounds_toArray, List.set_cons_zero, List.set_cons_succ]
        refine wpAnyH_take (i := 12) (by simp only [List.getElem?_toArray, List.getElem?_cons_succ, List.getElem?_cons_zero]; exact rfl) (by kernel_rfl) (by kernel_rfl) (by kernel_rfl) (by intro _ _ _ h; exact h) (Or.inr ⟨by rfl, rfl⟩) hHeld ?_
        try simp only [Act.put, List.setIfInBounds_toArray, List.set_cons_zero, List.set_cons_succ]
        refine wpAnyH_take (i := 13) (by simp only [List.getElem?_toArray, List.getElem?_cons_succ, List.getElem?_cons_zero]; exact rfl) (by kernel_rfl) (by kernel_rfl) (by kernel_rfl) (by intro _ _ _ h; exact h) (Or.inr ⟨by rfl, rfl⟩) hHeld ?_
        try simp only [Act.put, List.setIfInBounds_toArray, List.set_cons_zero, List.set_cons_succ]
        refine wpAnyH_take (i := 14) (by simp only [List.getElem?_toArray, List.getElem?_cons_succ, List.getElem?_cons_zero]; exact rfl) (by kernel_rfl) (by kernel_rfl) (by kernel_rfl) (by intro _ _ _ h; exact h) (Or.inr ⟨by rfl, rfl⟩) hHeld ?_
        try simp only [Act.put, List.setIfInBounds_toArray, List.set_cons_zero, List.set_cons_succ]
        refine wpAnyH_take (i := 15) (by simp only [List.getElem?_toArray, List.getElem?_cons_succ, List.getElem?_cons_zero]; exact rfl) (by kernel_rfl) (by kernel_rfl) (by kernel_rfl) (by intro _ _ _ h; exact h) (Or.inr ⟨by rfl, rfl⟩) hHeld ?_
        try simp only [Act.put, List.setIfInBounds_toArray, List.set_cons_zero, List.set_cons_succ]
        refine wpAnyH_take (i := 16) (by simp only [List.getElem?_toArray, List.getElem?_cons_succ, List.getElem?_cons_zero]; exact rfl) (by kernel_rfl) (by kernel_rfl) (by kernel_rfl) (by intro _ _ _ h; exact h) (Or.inr ⟨by rfl, rfl⟩) hHeld ?_
        try simp only [Act.put, List.setIfInBounds_toArray, List.set_cons_zero, List.set_cons_succ]
        refine wpAnyH_take (i := 17) (by simp only [List.getElem?_toArray, List.getElem?_cons_succ, List.getElem?_cons_zero]; exact rfl) (by kernel_rfl) (by kernel_rfl) (by kernel_rfl) (by intro _ _ _ h; exact h) (Or.inr ⟨by rfl, rfl⟩) hHeld ?_
        try simp only [Act.put, List.setIfInBounds_toArray, List.set_cons_zero, List.set_cons_succ]
        refine wpAnyH_take (i := 18) (by simp only [List.getElem?_toArray, List.getElem?_cons_succ, List.getElem?_cons_zero]; exact rfl) (by kernel_rfl) (by kernel_rfl) (by kernel_rfl) (by intro _ _ _ h; exact h) (Or.inr ⟨by rfl, rfl⟩) hHeld ?_
        try simp only [Act.put, List.setIfInBounds_toArray, List.set_cons_zero, List.set_cons_succ]
        refine wpAnyH_take (i := 19) (by simp only [List.getElem?_toArray, List.getElem?_cons_succ, List.getElem?_cons_zero]; exact rfl) (by kernel_rfl) (by kernel_rfl) (by kernel_rfl) (by intro _ _ _ h; exact h) (Or.inr ⟨by rfl, rfl⟩) hHeld ?_
        try simp only [Act.put, List.setIfInBounds_toArray, List.set_cons_zero, List.set_cons_succ]
        refine wpAnyH_take (i := 20) (by simp only [List.getElem?_toArray, List.getElem?_cons_succ, List.getElem?_cons_zero]; exact rfl) (by kernel_rfl) (by kernel_rfl) (by kernel_rfl) (by intro _ _ _ h; exact h) (Or.inr ⟨by rfl, rfl⟩) hHeld ?_
        try simp only [Act.put, List.setIfInBounds_toArray, List.set_cons_zero, List.set_cons_succ]
        refine wpAnyH_take (i := 21) (by simp only [List.getElem?_toArray, List.getElem?_cons_succ, List.getElem?_cons_zero]; exact rfl) (by kernel_rfl) (by kernel_rfl) (by kernel_rfl) (by intro _ _ _ h; exact h) (Or.inr ⟨by rfl, rfl⟩) hHeld ?_
        try simp only [Act.put, List.setIfInBounds_toArray, List.set_cons_zero, List.set_cons_succ]
        refine wpAnyH_take (i := 22) (by simp only [List.getElem?_toArray, List.getElem?_cons_succ, List.getElem?_cons_zero]; exact rfl) (by kernel_rfl) (by kernel_rfl) (by kernel_rfl) (by intro _ _ _ h; exact h) (Or.inr ⟨by rfl, rfl⟩) hHeld ?_
        try simp only [Act.put, List.setIfInBounds_toArray, List.set_cons_zero, List.set_cons_succ]
        refine wpAnyH_take (i := 23) (by simp only [List.getElem?_toArray, List.getElem?_cons_succ, List.getElem?_cons_zero]; exact rfl) (by kernel_rfl) (by kernel_rfl) (by kernel_rfl) (by intro _ _ _ h; exact h) (Or.inr ⟨by rfl, rfl⟩) hHeld ?_
        try simp only [Act.put, List.setIfInBounds_toArray, List.set_cons_zero, List.set_cons_succ]
        refine wpAnyH_take (i := 24) (by simp only [List.getElem?_toArray, List.getElem?_cons_succ, List.getElem?_cons_zero]; exact rfl) (by kernel_rfl) (by kernel_rfl) (by kernel_rfl) (by intro _ _ _ h; exact h) (Or.inr ⟨by rfl, rfl⟩) hHeld ?_
        try simp only [Act.put, List.setIfInBounds_toArray, List.set_cons_zero, List.set_cons_succ]
        refine wpAnyH_take (i := 25) (by simp only [List.getElem?_toArray, List.getElem?_cons_succ, List.getElem?_cons_zero]; exact rfl) (by kernel_rfl) (by kernel_rfl) (by kernel_rfl) (by intro _ _ _ h; exact h) (Or.inr ⟨by rfl, rfl⟩) hHeld ?_
        try simp only [Act.put, List.setIfInBounds_toArray, List.set_cons_zero, List.set_cons_succ]
        refine wpAnyH_take (i := 26) (v := ?v116) (by simp only [List.getElem?_toArray, List.getElem?_cons_succ, List.getElem?_cons_zero]; exact rfl) (by kernel_rfl) (by kernel_rfl) (by kernel_rfl) (by intro _ _ _ h; exact h) (Or.inl ⟨by rfl, ?y116⟩) hHeld ?_
        case y116 => (intro w hSw; (try dsimp only at hSw); go_simp; try (with_reducible rfl))
        try simp only [Act.put, List.setIfInBounds_toArray, List.set_cons_zero, List.set_cons_succ]
        refine wpAnyH_done (by kernel_rfl) ?_ _
        go_wp2_with (go_at_call 116; with_reducible refine HP1.out.mono ?_; rintro e wA ⟨r1, W1, rfl, rfl, ho1, hb1⟩)
        have hb1 : Below wj.heap.size wj W1 := ((Below.refl wj.heap.size wj).drew).trans hb1
        have hT1 := htuj.put (W := W1) (r := r1) (row := insN (t.getD u []) i v) hb1 ((ho1.ints (xs := natsI (insN (t.getD u []) i v)) (by rw [insN_len]; omega)).weak fun b hb => ho1.lt b hb) huv1 ht.len hg.lt hbxj.tt.2.2.1
        have hK1 := keeps_put (F := F2) (tb := tb) (o := to + u) (r := r1) hb1
        have hB1 := hbxj.move (F' := F2) hK1 (fun _ h => .inl h)
        have hS1 := HE.keep F2 s2 wj (W1.setCell ⟨tb, to + u, none⟩ r1) hst2 (fun b hb => (heap_set_o (tb := tb) (b := b) (fun e => hbxj.tt.2.2.2 (by rw [← e]; exact hb))).trans (hb1.block b (hg.lt b hb)))
        have hL1 : ∀ b, F2 b → b < (W1.setCell ⟨tb, to + u, none⟩ r1).heap.size := fun b hb => Nat.lt_of_lt_of_le (hg.lt b hb) hK1.size
        clear hb1 ho1
        generalize W1.setCell ⟨tb, to + u, none⟩ r1 = wA at *
        have hrow2 := hT1.row v huv2
        rw [getD_set t u _ (by rw [ht.len]; exact huv1) v, if_neg (fun e => huv3 e.symm)] at hrow2
        have hp2 := put_any (w := wA) (u := u) (i := m) huv2 (by omega) hlv16 hB1.c1 (hT1.cell v huv2) (hT1.fz v huv2) hrow2
        go_wp2_with (go_at_call 116; with_reducible refine hp2.mono ?_; rintro e wB ⟨r2, W2, rfl, rfl, ho2, hb2⟩)
        have hT2 := hT1.put (W := W2) (r := r2) (row := insN (t.getD v []) m u) hb2 ((ho2.ints (xs := natsI (insN (t.getD v []) m u)) (by rw [insN_len]; omega)).weak fun b hb => ho2.lt b hb) huv2 (by rw [List.length_set]; exact ht.len) hL1 hB1.tt.2.2.1
        have hK2 := keeps_put (F := F2) (tb := tb) (o := to + v) (r := r2) hb2
        have hB2 := hB1.move (F' := F2) hK2 (fun _ h => .inl h)
        have hS2 := HE.keep F2 s2 wA (W2.setCell ⟨tb, to + v, none⟩ r2) hS1 (fun b hb => (heap_set_o (tb := tb) (b := b) (fun e => hbxj.tt.2.2.2 (by rw [← e]; exact hb))).trans (hb2.block b (hL1 b hb)))
        have hL2 : ∀ b, F2 b → b < (W2.setCell ⟨tb, to + v, none⟩ r2).heap.size := fun b hb => Nat.lt_of_lt_of_le (hL1 b hb) hK2.size
        have hK12 := hK1.trans hK2 fun _ _ h => h
        clear hb2 ho2 hp2 hrow2 hS1 hK1 hK2
        generalize W2.setCell ⟨tb, to + v, none⟩ r2 = wB at *
        have hih := HIH.out _ s2 wB F2 _ (HST.out i m) hS2 hB2 hT2 hL2
        rw [show ((k + 1 : Nat) : Int) = (k : Int) + 1 from rfl] at hih
        go_wp2_with (go_at_call 89; with_reducible refine hih.mono ?_; rintro e w3 ⟨F3, rfl, hst4, g3⟩)
        have g3 : Grn wB w3.drew F2 F3 tb to n := g3.dr
        have hGb := Grn.back htuj hK12 hT2 g3 huv1 huv2
        have hT3 := hT2.grn g3
        have c13 := (hB2.move g3.keeps g3.sub).c1
        have k3 := hT3.cell u huv1
        have f3 := hT3.fz u huv1
        have f4 := hT3.fz v huv2
        have k4 := hT3.cell v huv2
        have hF3 : ¬ F3 tb := (hB2.move g3.keeps g3.sub).tt.2.2.2
        have hS4 := HE.keep F3 _ w3 ((w3.drew.setCell ⟨tb, to + u, none⟩ (fv u)).setCell ⟨tb, to + v, none⟩ (fv v)) hst4 (fun b hb => (heap_set_o (tb := tb) (b := b) (fun e => hF3 (by rw [← e]; exact hb))).trans (heap_set_o (tb := tb) (b := b) (fun e => hF3 (by rw [← e]; exact hb))))
        rw [← HS3.out] at hS4
        have k5 : (w3.setCell ⟨tb, to + u, none⟩ (fv u)).cell? ⟨tb, to + v, none⟩ = some (upV (upV fv u r1) v r2 v) := (World.cell?_setCell_other _ _ _ _ (addr_ne fun e => huv3 e.symm)).trans k4
        have f5 : (w3.setCell ⟨tb, to + u, none⟩ (fv u)).frozen? ⟨tb, to + v, none⟩ = false := (World.frozen?_setCell _ _ _ _).trans f4
        have k3 : w3.cell? ⟨tb, to + u, none⟩ = some (upV (upV fv u r1) v r2 u) := k3
        have f3 : w3.frozen? ⟨tb, to + u, none⟩ = false := f3
        rw [hue] at k5 f5
        rw [hue, hve] at hGb hS4
        clear hih hT1 hT2 hB1 hB2 hS2 hL1 hL2 hT3 g3 hst4
        generalize hs3 : inG ef (E.drop (k + 1)) t u v i (m + 1) s1 = s3 at hS4
        have HS3c : RowKit.Hid (s3 = inG ef (E.drop (k + 1)) t u v i (m + 1) s1) := Lib.hid hs3.symm
        clear hs3 HS3
        go_wp2
        refine wp_region_late (S := (fun w' => w'.cell? ⟨xb, 1, none⟩ = some (.slice (some ⟨tb, to, none⟩) n tc))) (late := [13, 15]) (by kernel_rfl) ?_ (fun hHeld => ?_)
        · first | assumption | (simp [*, go_sem])
        refine wpLate_take (i := 0) (v := ?v117) (by simp only [List.getElem?_toArray, List.getElem?_cons_zero]; exact rfl) (by kernel_rfl) (by kernel_rfl) (by kernel_rfl) (by intro _ _ _ h; exact h) (Or.inl ⟨by rfl, ?y117⟩) ?_
        case y117 => (intro w _; go_simp; try (with_reducible rfl))
        try simp only [Act.put, List.setIfInBounds_toArray, List.set_cons_zero, List.set_cons_succ]
        refine wpLate_take (i := 1) (v := ?v118) (by simp only [List.getElem?_toArray, List.getElem?_cons_succ, List.getElem?_cons_zero]; exact rfl) (by kernel_rfl) (by kernel_rfl) (by kernel_rfl) (by intro _ _ _ h; exact h) (Or.inl ⟨by rfl, ?y118⟩) ?_
        case y118 => (intro w _; go_simp; try (with_reducible rfl))
        try simp only [Act.put, List.setIfInBounds_toArray, List.set_cons_zero, List.set_cons_succ]
        refine wpLate_take (i := 2) (v := ?v119) (by simp only [List.getElem?_toArray, List.getElem?_cons_succ, List.getElem?_cons_zero]; exact rfl) (by kernel_rfl) (by kernel_rfl) (by kernel_rfl) (by intro _ _ _ h; exact h) (Or.inl ⟨by rfl, ?y119⟩) ?_
        case y119 => (intro w _; go_simp; try (with_reducible rfl))
        try simp only [Act.put, List.setIfInBounds_toArray, List.set_cons_zero, List.set_cons_succ]
        refine wpLate_load (i := 3) (v := ?v120) (by simp only [List.getElem?_toArray, List.getElem?_cons_succ, List.getElem?_cons_zero]; exact rfl) (by kernel_rfl) (by kernel_rfl) (by kernel_rfl) (by kernel_rfl) (by intro _ _ _ h; exact h) (Or.inl ⟨by rfl, ?y120⟩) hHeld ?_
        case y120 => (intro w hSw; (try dsimp only at hSw); go_simp; try (with_reducible rfl))
        try simp only [Act.put, List.setIfInBounds_toArray, List.set_cons_zero, List.set_cons_succ]
        refine wpLate_take (i := 4) (v := ?v121) (by simp only [List.getElem?_toArray, List.getElem?_cons_succ, List.getElem?_cons_zero]; exact rfl) (by kernel_rfl) (by kernel_rfl) (by kernel_rfl) (by intro _ _ _ h; exact h) (Or.inl ⟨by rfl, ?y121⟩) ?_
        case y121 => (intro w _; go_simp; try (with_reducible rfl))
        try simp only [Act.put, List.setIfInBounds_toArray, List.set_cons_zero, List.set_cons_succ]
        refine wpLate_take (i := 5) (v := ?v122) (by simp only [List.getElem?_toArray, List.getElem?_cons_succ, List.getElem?_cons_zero]; exact rfl) (by kernel_rfl) (by kernel_rfl) (by kernel_rfl) (by intro _ _ _ h; exact h) (Or.inl ⟨by rfl, ?y122⟩) ?_
        case y122 => (intro w _; go_simp; try (with_reducible rfl))
        try simp only [Act.put, List.setIfInBounds_toArray, List.set_cons_zero, List.set_cons_succ]
        refine wpLate_take (i := 6) (v := ?v123) (by simp only [List.getElem?_toArray, List.getElem?_cons_succ, List.getElem?_cons_zero]; exact rfl) (by kernel_rfl) (by kernel_rfl) (by kernel_rfl) (by intro _ _ _ h; exact h) (Or.inl ⟨by rfl, ?y123⟩) ?_
        case y123 => (intro w _; go_simp; try (with_reducible rfl))
        try simp only [Act.put, List.setIfInBounds_toArray, List.set_cons_zero, List.set_cons_succ]
        refine wpLate_take (i := 7) (v := ?v124) (by simp only [List.getElem?_toArray, List.getElem?_cons_succ, List.getElem?_cons_zero]; exact rfl) (by kernel_rfl) (by kernel_rfl) (by kernel_rfl) (by intro _ _ _ h; exact h) (Or.inl ⟨by rfl, ?y124⟩) ?_
        case y124 => (intro w _; go_simp; try (with_reducible rfl))
        try simp only [Act.put, List.setIfInBounds_toArray, List.set_cons_zero, List.set_cons_succ]
        refine wpLate_load (i := 8) (v := ?v125) (by simp only [List.getElem?_toArray, List.getElem?_cons_succ, List.getElem?_cons_zero]; exact rfl) (by kernel_rfl) (by kernel_rfl) (by kernel_rfl) (by kernel_rfl) (by intro _ _ _ h; exact h) (Or.inl ⟨by rfl, ?y125⟩) hHeld ?_
        case y125 => (intro w hSw; (try dsimp only at hSw); go_simp; try (with_reducible rfl))
        try simp only [Act.put, List.setIfInBounds_toArray, List.set_cons_zero, List.set_cons_succ]
        refine wpLate_take (i := 9) (v := ?v126) (by simp only [List.getElem?_toArray, List.getElem?_cons_succ, List.getElem?_cons_zero]; exact rfl) (by kernel_rfl) (by kernel_rfl) (by kernel_rfl) (by intro _ _ _ h; exact h) (Or.inl ⟨by rfl, ?y126⟩) ?_
        case y126 => (intro w _; go_simp; try (with_reducible rfl))
        try simp only [Act.put, List.setIfInBounds_toArray, List.set_cons_zero, List.set_cons_succ]
        refine wpLate_take (i := 10) (v := ?v127) (by simp only [List.getElem?_toArray, List.getElem?_cons_succ, List.getElem?_cons_zero]; exact rfl) (by kernel_rfl) (by kernel_rfl) (by kernel_rfl) (by intro _ _ _ h; exact h) (Or.inl ⟨by rfl, ?y127⟩) ?_
        case y127 => (intro w _; go_simp; try (with_reducible rfl))
        try simp only [Act.put, List.setIfInBounds_toArray, List.set_cons_zero, List.set_cons_succ]
        refine wpLate_take (i := 11) (v := ?v128) (by simp only [List.getElem?_toArray, List.getElem?_cons_succ, List.getElem?_cons_zero]; exact rfl) (by kernel_rfl) (by kernel_rfl) (by kernel_rfl) (by intro _ _ _ h; exact h) (Or.inl ⟨by rfl, ?y128⟩) ?_
        case y128 => (intro w _; go_simp; try (with_reducible rfl))
        try simp only [Act.put, List.setIfInBounds_toArray, List.set_cons_zero, List.set_cons_succ]
        refine wpLate_take (i := 12) (v := ?v129) (by simp only [List.getElem?_toArray, List.getElem?_cons_succ, List.getElem?_cons_zero]; exact rfl) (by kernel_rfl) (by kernel_rfl) (by kernel_rfl) (by intro _ _ _ h; exact h) (Or.inl ⟨by rfl, ?y129⟩) ?_
        case y129 => (intro w _; go_simp; try (with_reducible rfl))
        try simp only [Act.put, List.setIfInBounds_toArray, List.set_cons_zero, List.set_cons_succ]
        refine wpLate_late (i := 13) (by kernel_rfl) (by simp only [List.getElem?_toArray, List.getElem?_cons_succ, List.getElem?_cons_zero]; exact rfl) (by kernel_rfl) (fun K hK => ?_)
        go_simp
        skip
        try dsimp only
        refine hK.out _ _ ?_
        clear hK K
        try simp only [Act.put, List.setIfInBounds_toArray, List.set_cons_zero, List.set_cons_succ]
        refine wpLate_take (i := 14) (v := ?v132) (by simp only [List.getElem?_toArray, List.getElem?_cons_succ, List.getElem?_cons_zero]; exact rfl) (by kernel_rfl) (by kernel_rfl) (by kernel_rfl) (by intro _ _ _ h; exact h) (Or.inl ⟨by rfl, ?y132⟩) ?_
        case y132 => (intro w _; go_simp; try (with_reducible rfl))
        try simp only [Act.put, List.setIfInBounds_toArray, List.set_cons_zero, List.set_cons_succ]
        refine wpLate_late (i := 15) (by kernel_rfl) (by simp only [List.getElem?_toArray, List.getElem?_cons_succ, List.getElem?_cons_zero]; exact rfl) (by kernel_rfl) (fun K hK => ?_)
        go_simp
        skip
        try dsimp only
        refine hK.out _ _ ?_
        clear hK K
        try simp only [Act.put, List.setIfInBounds_toArray, List.set_cons_zero, List.set_cons_succ]
        refine wpLate_done (by kernel_rfl) ?_ _
        go_wp2
        go_roundw
        case rel => exact ⟨m + 1, s3, F3, by omega, by go_num, HS3c, hS4, hg.trans hGb⟩
        case measure => (simp [intOf] <;> omega)
      have hup : 0 < lu := by omega
      have hvp : 0 < lv := by omega
      have hupI : (0 : Int) < lu := by omega
      have hvpI : (0 : Int) < lv := by omega
      obtain ⟨ub, uo, rfl, ⟨hub1, hub2, hub3⟩, hiu, hcu⟩ := row_read hru2 (i := i) (by omega)
      obtain ⟨vb, vo, rfl, ⟨hvb1, hvb2, hvb3⟩, hiv, hcv⟩ := row_read hrv2 (i := m) (by omega)
      have hcu := hg.at_ hcu hub2 hub3
      have hcv := hg.at_ hcv hvb2 hvb3
      generalize hgu : (t.getD u []).getD i 0 = a at *
      generalize hgv : (t.getD v []).getD m 0 = b at *
      have hau : IsD t (a, u) := (ht.rot.sym u a (by have := getD_memN hiu; rw [hgu] at this; exact this)).2
      have hbv : IsD t (b, v) := (ht.rot.sym v b (by have := getD_memN hiv; rw [hgv] at this; exact this)).2
      have hl1 := lookN ht.rot hM2 HN.out hau
      have hl2 := lookN ht.rot hM2 HN.out hbv
      have hsame := HN.out.same _ _ hau hbv
      have hok : OkI t u v i m ↔ nf (a, u) = nf (b, v) := by
        rw [hsame, OkI, hgu, hgv]
        constructor
        · rintro (h | h | h)
          · rw [h] at hiu; simp at hiu
          · rw [h] at hiv; simp at hiv
          · exact h
        · exact fun h => .inr (.inr h)
      generalize nf (a, u) = n1 at *
      generalize nf (b, v) = n2 at *
      clear hsame hau hbv hgu hgv hiu hiv
      have hiL : i < lu := by omega
      have hmL : m < lv := by omega
      by_cases he : n1 = n2
      · subst he
        have HS3 := Lib.hid (show inG ef (E.drop (k + 1)) t u v i (m + 1) s1 = (rawI (E.drop (k + 1)) (stepE t u v i m)).foldl (fun s x => ef x s) s2 by rw [inG_succ, if_pos (hok.2 rfl), HS2.out])
        clear hok
        go_wp2
        refine wp_region_held_drew (S := (fun w' => w'.heap[mb]? = w2.heap[mb]? ∧ w'.cell? ⟨ub, uo + i, none⟩ = some (.int .i64 (a : Int)) ∧ w'.cell? ⟨vb, vo + m, none⟩ = some (.int .i64 (b : Int)))) (by kernel_rfl) ?_ (fun hHeld => ?_)
        · first | exact ⟨hmbj, hcu, hcv⟩ | exact ⟨‹_›, ‹_›, ‹_›⟩ | assumption | (simp [*, go_sem])
        refine wpAnyH_take (i := 0) (v := ?v135) (by simp only [List.getElem?_toArray, List.getElem?_cons_zero]; exact rfl) (by kernel_rfl) (by kernel_rfl) (by kernel_rfl) (by intro _ _ _ h; exact h) (Or.inl ⟨by rfl, ?y135⟩) hHeld ?_
        case y135 => (intro w hSw; (try dsimp only at hSw); go_simp; try (with_reducible rfl))
        try simp only [Act.put, List.setIfInBounds_toArray, List.set_cons_zero, List.set_cons_succ]
        refine wpAnyH_take (i := 1) (v := ?v136) (by simp only [List.getElem?_toArray, List.getElem?_cons_succ, List.getElem?_cons_zero]; exact rfl) (by kernel_rfl) (by kernel_rfl) (by kernel_rfl) (by intro _ _ _ h; exact h) (Or.inl ⟨by rfl, ?y136⟩) hHeld ?_
        case y136 => (intro w hSw; (try dsimp only at hSw); go_simp; try (with_reducible rfl))
        try simp only [Act.put, List.setIfInBounds_toArray, List.set_cons_zero, List.set_cons_succ]
        refine wpAnyH_take (i := 2) (v := ?v137) (by simp only [List.getElem?_toArray, List.getElem?_cons_succ, List.getElem?_cons_zero]; exact rfl) (by kernel_rfl) (by kernel_rfl) (by kernel_rfl) (by intro _ _ _ h; exact h) (Or.inl ⟨by rfl, ?y137⟩) hHeld ?_
        case y137 => (intro w hSw; (try dsimp only at hSw); go_simp; try (with_reducible rfl))
        try simp only [Act.put, List.setIfInBounds_toArray, List.set_cons_zero, List.set_cons_succ]
        refine wpAnyH_take (i := 3) (v := ?v138) (by simp only [List.getElem?_toArray, List.getElem?_cons_succ, List.getElem?_cons_zero]; exact rfl) (by kernel_rfl) (by kernel_rfl) (by kernel_rfl) (by intro _ _ _ h; exact h) (Or.inl ⟨by rfl, ?y138⟩) hHeld ?_
        case y138 => (intro w hSw; (try dsimp only at hSw); go_simp; try (with_reducible rfl))
        try simp only [Act.put, List.setIfInBounds_toArray, List.set_cons_zero, List.set_cons_succ]
        refine wpAnyH_take (i := 4) (v := ?v139) (by simp only [List.getElem?_toArray, List.getElem?_cons_succ, List.getElem?_cons_zero]; exact rfl) (by kernel_rfl) (by kernel_rfl) (by kernel_rfl) (by intro _ _ _ h; exact h) (Or.inl ⟨by rfl, ?y139⟩) hHeld ?_
        case y139 => (intro w hSw; (try dsimp only at hSw); go_simp; try (with_reducible rfl))
        try simp only [Act.put, List.setIfInBounds_toArray, List.set_cons_zero, List.set_cons_succ]
        refine wpAnyH_take (i := 5) (v := ?v140) (by simp only [List.getElem?_toArray, List.getElem?_cons_succ, List.getElem?_cons_zero]; exact rfl) (by kernel_rfl) (by kernel_rfl) (by kernel_rfl) (by intro _ _ _ h; exact h) (Or.inl ⟨by rfl, ?y140⟩) hHeld ?_
        case y140 => (intro w hSw; (try dsimp only at hSw); go_simp; try (with_reducible rfl))
        try simp only [Act.put, List.setIfInBounds_toArray, List.set_cons_zero, List.set_cons_succ]
        refine wpAnyH_take (i := 6) (v := ?v141) (by simp only [List.getElem?_toArray, List.getElem?_cons_succ, List.getElem?_cons_zero]; exact rfl) (by kernel_rfl) (by kernel_rfl) (by kernel_rfl) (by intro _ _ _ h; exact h) (Or.inl ⟨by rfl, ?y141⟩) hHeld ?_
        case y141 => (intro w hSw; (try dsimp only at hSw); go_simp; try (with_reducible rfl))
        try simp only [Act.put, List.setIfInBounds_toArray, List.set_cons_zero, List.set_cons_succ]
        refine wpAnyH_take (i := 7) (v := ?v142) (by simp only [List.getElem?_toArray, List.getElem?_cons_succ, List.getElem?_cons_zero]; exact rfl) (by kernel_rfl) (by kernel_rfl) (by kernel_rfl) (by intro _ _ _ h; exact h) (Or.inl ⟨by rfl, ?y142⟩) hHeld ?_
        case y142 => (intro w hSw; (try dsimp only at hSw); go_simp; try (with_reducible rfl))
        try simp only [Act.put, List.setIfInBounds_toArray, List.set_cons_zero, List.set_cons_succ]
        refine wpAnyH_take (i := 8) (v := ?v143) (by simp only [List.getElem?_toArray, List.getElem?_cons_succ, List.getElem?_cons_zero]; exact rfl) (by kernel_rfl) (by kernel_rfl) (by kernel_rfl) (by intro _ _ _ h; exact h) (Or.inl ⟨by rfl, ?y143⟩) hHeld ?_
        case y143 => (intro w hSw; (try dsimp only at hSw); go_simp; try (with_reducible rfl))
        try simp only [Act.put, List.setIfInBounds_toArray, List.set_cons_zero, List.set_cons_succ]
        refine wpAnyH_take (i := 9) (v := ?v144) (by simp only [List.getElem?_toArray, List.getElem?_cons_succ, List.getElem?_cons_zero]; exact rfl) (by kernel_rfl) (by kernel_rfl) (by kernel_rfl) (by intro _ _ _ h; exact h) (Or.inl ⟨by rfl, ?y144⟩) hHeld ?_
        case y144 => (intro w hSw; (try dsimp only at hSw); go_simp; try (with_reducible rfl))
        try simp only [Act.put, List.setIfInBounds_toArray, List.set_cons_zero, List.set_cons_succ]
        refine wpAnyH_take (i := 10) (v := ?v145) (by simp only [List.getElem?_toArray, List.getElem?_cons_succ, List.getElem?_cons_zero]; exact rfl) (by kernel_rfl) (by kernel_rfl) (by kernel_rfl) (by intro _ _ _ h; exact h) (Or.inl ⟨by rfl, ?y145⟩) hHeld ?_
        case y145 => (intro w hSw; (try dsimp only at hSw); go_simp; try (with_reducible rfl))
        try simp only [Act.put, List.setIfInBounds_toArray, List.set_cons_zero, List.set_cons_succ]
        refine wpAnyH_take (i := 11) (v := ?v146) (by simp only [List.getElem?_toArray, List.getElem?_cons_succ, List.getElem?_cons_zero]; exact rfl) (by kernel_rfl) (by kernel_rfl) (by kernel_rfl) (by intro _ _ _ h; exact h) (Or.inl ⟨by rfl, ?y146⟩) hHeld ?_
        case y146 => (intro w hSw; (try dsimp only at hSw); go_simp; try (with_reducible rfl))
        try simp only [Act.put, List.setIfInBounds_toArray, List.set_cons_zero, List.set_cons_succ]
        refine wpAnyH_take (i := 12) (v := ?v147) (by simp only [List.getElem?_toArray, List.getElem?_cons_succ, List.getElem?_cons_zero]; exact rfl) (by kernel_rfl) (by kernel_rfl) (by kernel_rfl) (by intro _ _ _ h; exact h) (Or.inl ⟨by rfl, ?y147⟩) hHeld ?_
        case y147 => (intro w hSw; (try dsimp only at hSw); go_simp; try (with_reducible rfl))
        try simp only [Act.put, List.setIfInBounds_toArray, List.set_cons_zero, List.set_cons_succ]
        refine wpAnyH_take (i := 13) (v := ?v148) (by simp only [List.getElem?_toArray, List.getElem?_cons_succ, List.getElem?_cons_zero]; exact rfl) (by kernel_rfl) (by kernel_rfl) (by kernel_rfl) (by intro _ _ _ h; exact h) (Or.inl ⟨by rfl, ?y148⟩) hHeld ?_
        case y148 => (intro w hSw; (try dsimp only at hSw); go_simp; try (with_reducible rfl))
        try simp only [Act.put, List.setIfInBounds_toArray, List.set_cons_zero, List.set_cons_succ]
        refine wpAnyH_take (i := 14) (v := ?v149) (by simp only [List.getElem?_toArray, List.getElem?_cons_succ, List.getElem?_cons_zero]; exact rfl) (by kernel_rfl) (by kernel_rfl) (by kernel_rfl) (by intro _ _ _ h; exact h) (Or.inl ⟨by rfl, ?y149⟩) hHeld ?_
        case y149 => (intro w hSw; (try dsimp only at hSw); go_simp; try (with_reducible rfl))
        try simp only [Act.put, List.setIfInBounds_toArray, List.set_cons_zero, List.set_cons_succ]
        refine wpAnyH_take (i := 15) (v := ?v150) (by simp only [List.getElem?_toArray, List.getElem?_cons_succ, List.getElem?_cons_zero]; exact rfl) (by kernel_rfl) (by kernel_rfl) (by kernel_rfl) (by intro _ _ _ h; exact h) (Or.inl ⟨by rfl, ?y150⟩) hHeld ?_
        case y150 => (intro w hSw; (try dsimp only at hSw); go_simp; try (with_reducible rfl))
        try simp only [Act.put, List.setIfInBounds_toArray, List.set_cons_zero, List.set_cons_succ]
        refine wpAnyH_take (i := 16) (v := ?v151) (by simp only [List.getElem?_toArray, List.getElem?_cons_succ, List.getElem?_cons_zero]; exact rfl) (by kernel_rfl) (by kernel_rfl) (by kernel_rfl) (by intro _ _ _ h; exact h) (Or.inl ⟨by rfl, ?y151⟩) hHeld ?_
        case y151 => (intro w hSw; (try dsimp only at hSw); go_simp; try (with_reducible rfl))
        try simp only [Act.put, List.setIfInBounds_toArray, List.set_cons_zero, List.set_cons_succ]
        refine wpAnyH_take (i := 17) (v := ?v152) (by simp only [List.getElem?_toArray, List.getElem?_cons_succ, List.getElem?_cons_zero]; exact rfl) (by kernel_rfl) (by kernel_rfl) (by kernel_rfl) (by intro _ _ _ h; exact h) (Or.inl ⟨by rfl, ?y152⟩) hHeld ?_
        case y152 => (intro w hSw; (try dsimp only at hSw); go_simp; try (with_reducible rfl))
        try simp only [Act.put, List.setIfInBounds_toArray, List.set_cons_zero, List.set_cons_succ]
        refine wpAnyH_take (i := 18) (v := ?v153) (by simp only [List.getElem?_toArray, List.getElem?_cons_succ, List.getElem?_cons_zero]; exact rfl) (by kernel_rfl) (by kernel_rfl) (by kernel_rfl) (by intro _ _ _ h; exact h) (Or.inl ⟨by rfl, ?y153⟩) hHeld ?_
        case y153 => (intro w hSw; (try dsimp only at hSw); go_simp; try (with_reducible rfl))
        try simp only [Act.put, List.setIfInBounds_toArray, List.set_cons_zero, List.set_cons_succ]
        refine wpAnyH_take (i := 19) (v := ?v154) (by simp only [List.getElem?_toArray, List.getElem?_cons_succ, List.getElem?_cons_zero]; exact rfl) (by kernel_rfl) (by kernel_rfl) (by kernel_rfl) (by intro _ _ _ h; exact h) (Or.inl ⟨by rfl, ?y154⟩) hHeld ?_
        case y154 => (intro w hSw; (try dsimp only at hSw); go_simp; try (with_reducible rfl))
        try simp only [Act.put, List.setIfInBounds_toArray, List.set_cons_zero, List.set_cons_succ]
        refine wpAnyH_take (i := 20) (v := ?v155) (by simp only [List.getElem?_toArray, List.getElem?_cons_succ, List.getElem?_cons_zero]; exact rfl) (by kernel_rfl) (by kernel_rfl) (by kernel_rfl) (by intro _ _ _ h; exact h) (Or.inl ⟨by rfl, ?y155⟩) hHeld ?_
        case y155 => (intro w hSw; (try dsimp only at hSw); go_simp; try (with_reducible rfl))
        try simp only [Act.put, List.setIfInBounds_toArray, List.set_cons_zero, List.set_cons_succ]
        refine wpAnyH_take (i := 21) (v := ?v156) (by simp only [List.getElem?_toArray, List.getElem?_cons_succ, List.getElem?_cons_zero]; exact rfl) (by kernel_rfl) (by kernel_rfl) (by kernel_rfl) (by intro _ _ _ h; exact h) (Or.inl ⟨by rfl, ?y156⟩) hHeld ?_
        case y156 => (intro w hSw; (try dsimp only at hSw); go_simp; try (with_reducible rfl))
        try simp only [Act.put, List.setIfInBounds_toArray, List.set_cons_zero, List.set_cons_succ]
        refine wpAnyH_take (i := 22) (v := ?v157) (by simp only [List.getElem?_toArray, List.getElem?_cons_succ, List.getElem?_cons_zero]; exact rfl) (by kernel_rfl) (by kernel_rfl) (by kernel_rfl) (by intro _ _ _ h; exact h) (Or.inl ⟨by rfl, ?y157⟩) hHeld ?_
        case y157 => (intro w hSw; (try dsimp only at hSw); go_simp; try (with_reducible rfl))
        try simp only [Act.put, List.setIfInBounds_toArray, List.set_cons_zero, List.set_cons_succ]
        refine wpAnyH_take (i := 23) (v := ?v158) (by simp only [List.getElem?_toArray, List.getElem?_cons_succ, List.getElem?_cons_zero]; exact rfl) (by kernel_rfl) (by kernel_rfl) (by kernel_rfl) (by intro _ _ _ h; exact h) (Or.inl ⟨by rfl, ?y158⟩) hHeld ?_
        case y158 => (intro w hSw; (try dsimp only at hSw); go_simp; try (with_reducible rfl))
        try simp only [Act.put, List.setIfInBounds_toArray, List.set_cons_zero, List.set_cons_succ]
        refine wpAnyH_take (i := 24) (v := ?v159) (by simp only [List.getElem?_toArray, List.getElem?_cons_succ, List.getElem?_cons_zero]; exact rfl) (by kernel_rfl) (by kernel_rfl) (by kernel_rfl) (by intro _ _ _ h; exact h) (Or.inl ⟨by rfl, ?y159⟩) hHeld ?_
        case y159 => (intro w hSw; (try dsimp only at hSw); go_simp; try (with_reducible rfl))
        try simp only [Act.put, List.setIfInBounds_toArray, List.set_cons_zero, List.set_cons_succ]
        refine wpAnyH_take (i := 25) (v := ?v160) (by simp only [List.getElem?_toArray, List.getElem?_cons_succ, List.getElem?_cons_zero]; exact rfl) (by kernel_rfl) (by kernel_rfl) (by kernel_rfl) (by intro _ _ _ h; exact h) (Or.inl ⟨by rfl, ?y160⟩) hHeld ?_
        case y160 => (intro w hSw; (try dsimp only at hSw); go_simp; try (with_reducible rfl))
        try simp only [Act.put, List.setIfInBounds_toArray, List.set_cons_zero, List.set_cons_succ]
        refine wpAnyH_take (i := 26) (v := ?v161) (by simp only [List.getElem?_toArray, List.getElem?_cons_succ, List.getElem?_cons_zero]; exact rfl) (by kernel_rfl) (by kernel_rfl) (by kernel_rfl) (by intro _ _ _ h; exact h) (Or.inl ⟨by rfl, ?y161⟩) hHeld ?_
        case y161 => (intro w hSw; (try dsimp only at hSw); go_simp; try (with_reducible rfl))
        try simp only [Act.put, List.setIfInBounds_toArray, List.set_cons_zero, List.set_cons_succ]
        refine wpAnyH_done (by kernel_rfl) ?_ _
        go_wp2_with (go_at_call 116; with_reducible refine HP1.out.mono ?_; rintro e wA ⟨r1, W1, rfl, rfl, ho1, hb1⟩)
        have hb1 : Below wj.heap.size wj W1 := ((Below.refl wj.heap.size wj).drew).trans hb1
        have hT1 := htuj.put (W := W1) (r := r1) (row := insN (t.getD u []) i v) hb1 ((ho1.ints (xs := natsI (insN (t.getD u []) i v)) (by rw [insN_len]; omega)).weak fun b hb => ho1.lt b hb) huv1 ht.len hg.lt hbxj.tt.2.2.1
        have hK1 := keeps_put (F := F2) (tb := tb) (o := to + u) (r := r1) hb1
        have hB1 := hbxj.move (F' := F2) hK1 (fun _ h => .inl h)
        have hS1 := HE.keep F2 s2 wj (W1.setCell ⟨tb, to + u, none⟩ r1) hst2 (fun b hb => (heap_set_o (tb := tb) (b := b) (fun e => hbxj.tt.2.2.2 (by rw [← e]; exact hb))).trans (hb1.block b (hg.lt b hb)))
        have hL1 : ∀ b, F2 b → b < (W1.setCell ⟨tb, to + u, none⟩ r1).heap.size := fun b hb => Nat.lt_of_lt_of_le (hg.lt b hb) hK1.size
        clear hb1 ho1
        generalize W1.setCell ⟨tb, to + u, none⟩ r1 = wA at *
        have hrow2 := hT1.row v huv2
        rw [getD_set t u _ (by rw [ht.len]; exact huv1) v, if_neg (fun e => huv3 e.symm)] at hrow2
        have hp2 := put_any (w := wA) (u := u) (i := m) huv2 (by omega) hlv16 hB1.c1 (hT1.cell v huv2) (hT1.fz v huv2) hrow2
        go_wp2_with (go_at_call 116; with_reducible refine hp2.mono ?_; rintro e wB ⟨r2, W2, rfl, rfl, ho2, hb2⟩)
        have hT2 := hT1.put (W := W2) (r := r2) (row := insN (t.getD v []) m u) hb2 ((ho2.ints (xs := natsI (insN (t.getD v []) m u)) (by rw [insN_len]; omega)).weak fun b hb => ho2.lt b hb) huv2 (by rw [List.length_set]; exact ht.len) hL1 hB1.tt.2.2.1
        have hK2 := keeps_put (F := F2) (tb := tb) (o := to + v) (r := r2) hb2
        have hB2 := hB1.move (F' := F2) hK2 (fun _ h => .inl h)
        have hS2 := HE.keep F2 s2 wA (W2.setCell ⟨tb, to + v, none⟩ r2) hS1 (fun b hb => (heap_set_o (tb := tb) (b := b) (fun e => hbxj.tt.2.2.2 (by rw [← e]; exact hb))).trans (hb2.block b (hL1 b hb)))
        have hL2 : ∀ b, F2 b → b < (W2.setCell ⟨tb, to + v, none⟩ r2).heap.size := fun b hb => Nat.lt_of_lt_of_le (hL1 b hb) hK2.size
        have hK12 := hK1.trans hK2 fun _ _ h => h
        clear hb2 ho2 hp2 hrow2 hS1 hK1 hK2
        generalize W2.setCell ⟨tb, to + v, none⟩ r2 = wB at *
        have hih := HIH.out _ s2 wB F2 _ (HST.out i m) hS2 hB2 hT2 hL2
        rw [show ((k + 1 : Nat) : Int) = (k : Int) + 1 from rfl] at hih
        go_wp2_with (go_at_call 89; with_reducible refine hih.mono ?_; rintro e w3 ⟨F3, rfl, hst4, g3⟩)
        have g3 : Grn wB w3.drew F2 F3 tb to n := g3.dr
        have hGb := Grn.back htuj hK12 hT2 g3 huv1 huv2
        have hT3 := hT2.grn g3
        have c13 := (hB2.move g3.keeps g3.sub).c1
        have k3 := hT3.cell u huv1
        have f3 := hT3.fz u huv1
        have f4 := hT3.fz v huv2
        have k4 := hT3.cell v huv2
        have hF3 : ¬ F3 tb := (hB2.move g3.keeps g3.sub).tt.2.2.2
        have hS4 := HE.keep F3 _ w3 ((w3.drew.setCell ⟨tb, to + u, none⟩ (fv u)).setCell ⟨tb, to + v, none⟩ (fv v)) hst4 (fun b hb => (heap_set_o (tb := tb) (b := b) (fun e => hF3 (by rw [← e]; exact hb))).trans (heap_set_o (tb := tb) (b := b) (fun e => hF3 (by rw [← e]; exact hb))))
        rw [← HS3.out] at hS4
        have k5 : (w3.setCell ⟨tb, to + u, none⟩ (fv u)).cell? ⟨tb, to + v, none⟩ = some (upV (upV fv u r1) v r2 v) := (World.cell?_setCell_other _ _ _ _ (addr_ne fun e => huv3 e.symm)).trans k4
        have f5 : (w3.setCell ⟨tb, to + u, none⟩ (fv u)).frozen? ⟨tb, to + v, none⟩ = false := (World.frozen?_setCell _ _ _ _).trans f4
        have k3 : w3.cell? ⟨tb, to + u, none⟩ = some (upV (upV fv u r1) v r2 u) := k3
        have f3 : w3.frozen? ⟨tb, to + u, none⟩ = false := f3
        rw [hue] at k5 f5
        rw [hue, hve] at hGb hS4
        clear hih hT1 hT2 hB1 hB2 hS2 hL1 hL2 hT3 g3 hst4
        generalize hs3 : inG ef (E.drop (k + 1)) t u v i (m + 1) s1 = s3 at hS4
        have HS3c : RowKit.Hid (s3 = inG ef (E.drop (k + 1)) t u v i (m + 1) s1) := Lib.hid hs3.symm
        clear hs3 HS3
        go_wp2
        refine wp_region_late (S := (fun w' => w'.cell? ⟨xb, 1, none⟩ = some (.slice (some ⟨tb, to, none⟩) n tc))) (late := [13, 15]) (by kernel_rfl) ?_ (fun hHeld => ?_)
        · first | assumption | (simp [*, go_sem])
        refine wpLate_take (i := 0) (v := ?v162) (by simp only [List.getElem?_toArray, List.getElem?_cons_zero]; exact rfl) (by kernel_rfl) (by kernel_rfl) (by kernel_rfl) (by intro _ _ _ h; exact h) (Or.inl ⟨by rfl, ?y162⟩) ?_
        case y162 => (intro w _; go_simp; try (with_reducible rfl))
        try simp only [Act.put, List.setIfInBounds_toArray, List.set_cons_zero, List.set_cons_succ]
        refine wpLate_take (i := 1) (v := ?v163) (by simp only [List.getElem?_toArray, List.getElem?_cons_succ, List.getElem?_cons_zero]; exact rfl) (by kernel_rfl) (by kernel_rfl) (by kernel_rfl) (by intro _ _ _ h; exact h) (Or.inl ⟨by rfl, ?y163⟩) ?_
        case y163 => (intro w _; go_simp; try (with_reducible rfl))
        try simp only [Act.put, List.setIfInBounds_toArray, List.set_cons_zero, List.set_cons_succ]
        refine wpLate_take (i := 2) (v := ?v164) (by simp only [List.getElem?_toArray, List.getElem?_cons_succ, List.getElem?_cons_zero]; exact rfl) (by kernel_rfl) (by kernel_rfl) (by kernel_rfl) (by intro _ _ _ h; exact h) (Or.inl ⟨by rfl, ?y164⟩) ?_
        case y164 => (intro w _; go_simp; try (with_reducible rfl))
        try simp only [Act.put, List.setIfInBounds_toArray, List.set_cons_zero, List.set_cons_succ]
        refine wpLate_load (i := 3) (v := ?v165) (by simp only [List.getElem?_toArray, List.getElem?_cons_succ, List.getElem?_cons_zero]; exact rfl) (by kernel_rfl) (by kernel_rfl) (by kernel_rfl) (by kernel_rfl) (by intro _ _ _ h; exact h) (Or.inl ⟨by rfl, ?y165⟩) hHeld ?_
        case y165 => (intro w hSw; (try dsimp only at hSw); go_simp; try (with_reducible rfl))
        try simp only [Act.put, List.setIfInBounds_toArray, List.set_cons_zero, List.set_cons_succ]
        refine wpLate_take (i := 4) (v := ?v166) (by simp only [List.getElem?_toArray, List.getElem?_cons_succ, List.getElem?_cons_zero]; exact rfl) (by kernel_rfl) (by kernel_rfl) (by kernel_rfl) (by intro _ _ _ h; exact h) (Or.inl ⟨by rfl, ?y166⟩) ?_
        case y166 => (intro w _; go_simp; try (with_reducible rfl))
        try simp only [Act.put, List.setIfInBounds_toArray, List.set_cons_zero, List.set_cons_succ]
        refine wpLate_take (i := 5) (v := ?v167) (by simp only [List.getElem?_toArray, List.getElem?_cons_succ, List.getElem?_cons_zero]; exact rfl) (by kernel_rfl) (by kernel_rfl) (by kernel_rfl) (by intro _ _ _ h; exact h) (Or.inl ⟨by rfl, ?y167⟩) ?_
        case y167 => (intro w _; go_simp; try (with_reducible rfl))
        try simp only [Act.put, List.setIfInBounds_toArray, List.set_cons_zero, List.set_cons_succ]
        refine wpLate_take (i := 6) (v := ?v168) (by simp only [List.getElem?_toArray, List.getElem?_cons_succ, List.getElem?_cons_zero]; exact rfl) (by kernel_rfl) (by kernel_rfl) (by kernel_rfl) (by intro _ _ _ h; exact h) (Or.inl ⟨by rfl, ?y168⟩) ?_
        case y168 => (intro w _; go_simp; try (with_reducible rfl))
        try simp only [Act.put, List.setIfInBounds_toArray, List.set_cons_zero, List.set_cons_succ]
        refine wpLate_take (i := 7) (v := ?v169) (by simp only [List.getElem?_toArray, List.getElem?_cons_succ, List.getElem?_cons_zero]; exact rfl) (by kernel_rfl) (by kernel_rfl) (by kernel_rfl) (by intro _ _ _ h; exact h) (Or.inl ⟨by rfl, ?y169⟩) ?_
        case y169 => (intro w _; go_simp; try (with_reducible rfl))
        try simp only [Act.put, List.setIfInBounds_toArray, List.set_cons_zero, List.set_cons_succ]
        refine wpLate_load (i := 8) (v := ?v170) (by simp only [List.getElem?_toArray, List.getElem?_cons_succ, List.getElem?_cons_zero]; exact rfl) (by kernel_rfl) (by kernel_rfl) (by kernel_rfl) (by kernel_rfl) (by intro _ _ _ h; exact h) (Or.inl ⟨by rfl, ?y170⟩) hHeld ?_
        case y170 => (intro w hSw; (try dsimp only at hSw); go_simp; try (with_reducible rfl))
        try simp only [Act.put, List.setIfInBounds_toArray, List.set_cons_zero, List.set_cons_succ]
        refine wpLate_take (i := 9) (v := ?v171) (by simp only [List.getElem?_toArray, List.getElem?_cons_succ, List.getElem?_cons_zero]; exact rfl) (by kernel_rfl) (by kernel_rfl) (by kernel_rfl) (by intro _ _ _ h; exact h) (Or.inl ⟨by rfl, ?y171⟩) ?_
        case y171 => (intro w _; go_simp; try (with_reducible rfl))
        try simp only [Act.put, List.setIfInBounds_toArray, List.set_cons_zero, List.set_cons_succ]
        refine wpLate_take (i := 10) (v := ?v172) (by simp only [List.getElem?_toArray, List.getElem?_cons_succ, List.getElem?_cons_zero]; exact rfl) (by kernel_rfl) (by kernel_rfl) (by kernel_rfl) (by intro _ _ _ h; exact h) (Or.inl ⟨by rfl, ?y172⟩) ?_
        case y172 => (intro w _; go_simp; try (with_reducible rfl))
        try simp only [Act.put, List.setIfInBounds_toArray, List.set_cons_zero, List.set_cons_succ]
        refine wpLate_take (i := 11) (v := ?v173) (by simp only [List.getElem?_toArray, List.getElem?_cons_succ, List.getElem?_cons_zero]; exact rfl) (by kernel_rfl) (by kernel_rfl) (by kernel_rfl) (by intro _ _ _ h; exact h) (Or.inl ⟨by rfl, ?y173⟩) ?_
        case y173 => (intro w _; go_simp; try (with_reducible rfl))
        try simp only [Act.put, List.setIfInBounds_toArray, List.set_cons_zero, List.set_cons_succ]
        refine wpLate_take (i := 12) (v := ?v174) (by simp only [List.getElem?_toArray, List.getElem?_cons_succ, List.getElem?_cons_zero]; exact rfl) (by kernel_rfl) (by kernel_rfl) (by kernel_rfl) (by intro _ _ _ h; exact h) (Or.inl ⟨by rfl, ?y174⟩) ?_
        case y174 => (intro w _; go_simp; try (with_reducible rfl))
        try simp only [Act.put, List.setIfInBounds_toArray, List.set_cons_zero, List.set_cons_succ]
        refine wpLate_late (i := 13) (by kernel_rfl) (by simp only [List.getElem?_toArray, List.getElem?_cons_succ, List.getElem?_cons_zero]; exact rfl) (by kernel_rfl) (fun K hK => ?_)
        go_simp
        skip
        try dsimp only
        refine hK.out _ _ ?_
        clear hK K
        try simp only [Act.put, List.setIfInBounds_toArray, List.set_cons_zero, List.set_cons_succ]
        refine wpLate_take (i := 14) (v := ?v177) (by simp only [List.getElem?_toArray, List.getElem?_cons_succ, List.getElem?_cons_zero]; exact rfl) (by kernel_rfl) (by kernel_rfl) (by kernel_rfl) (by intro _ _ _ h; exact h) (Or.inl ⟨by rfl, ?y177⟩) ?_
        case y177 => (intro w _; go_simp; try (with_reducible rfl))
        try simp only [Act.put, List.setIfInBounds_toArray, List.set_cons_zero, List.set_cons_succ]
        refine wpLate_late (i := 15) (by kernel_rfl) (by simp only [List.getElem?_toArray, List.getElem?_cons_succ, List.getElem?_cons_zero]; exact rfl) (by kernel_rfl) (fun K hK => ?_)
        go_simp
        skip
        try dsimp only
        refine hK.out _ _ ?_
        clear hK K
        try simp only [Act.put, List.setIfInBounds_toArray, List.set_cons_zero, List.set_cons_succ]
        refine wpLate_done (by kernel_rfl) ?_ _
        go_wp2
        go_roundw
        case rel => exact ⟨m + 1, s3, F3, by omega, by go_num, HS3c, hS4, hg.trans hGb⟩
        case measure => (simp [intOf] <;> omega)
      · have hne : ((n1 : Int) != (n2 : Int)) = true := by rw [bne_iff_ne]; omega
        have HS3 := Lib.hid (show s2 = inG ef (E.drop (k + 1)) t u v i (m + 1) s1 by rw [inG_succ, if_neg (fun h => he (hok.1 h)), HS2.out])
        have hS4 := HE.keep F2 s2 wj wj.drew hst2 (fun _ _ => rfl)
        clear hok he
        go_wp2
        refine wp_region_held_drew (S := (fun w' => w'.heap[mb]? = w2.heap[mb]? ∧ w'.cell? ⟨ub, uo + i, none⟩ = some (.int .i64 (a : Int)) ∧ w'.cell? ⟨vb, vo + m, none⟩ = some (.int .i64 (b : Int)))) (by kernel_rfl) ?_ (fun hHeld => ?_)
        · first | exact ⟨hmbj, hcu, hcv⟩ | exact ⟨‹_›, ‹_›, ‹_›⟩ | assumption | (simp [*, go_sem])
        refine wpAnyH_take (i := 0) (v := ?v180) (by simp only [List.getElem?_toArray, List.getElem?_cons_zero]; exact rfl) (by kernel_rfl) (by kernel_rfl) (by kernel_rfl) (by intro _ _ _ h; exact h) (Or.inl ⟨by rfl, ?y180⟩) hHeld ?_
        case y180 => (intro w hSw; (try dsimp only at hSw); go_simp; try (with_reducible rfl))
        try simp only [Act.put, List.setIfInBounds_toArray, List.set_cons_zero, List.set_cons_succ]
        refine wpAnyH_take (i := 1) (v := ?v181) (by simp only [List.getElem?_toArray, List.getElem?_cons_succ, List.getElem?_cons_zero]; exact rfl) (by kernel_rfl) (by kernel_rfl) (by kernel_rfl) (by intro _ _ _ h; exact h) (Or.inl ⟨by rfl, ?y181⟩) hHeld ?_
        case y181 => (intro w hSw; (try dsimp only at hSw); go_simp; try (with_reducible rfl))
        try simp only [Act.put, List.setIfInBounds_toArray, List.set_cons_zero, List.set_cons_succ]
        refine wpAnyH_take (i := 2) (v := ?v182) (by simp only [List.getElem?_toArray, List.getElem?_cons_succ, List.getElem?_cons_zero]; exact rfl) (by kernel_rfl) (by kernel_rfl) (by kernel_rfl) (by intro _ _ _ h; exact h) (Or.inl ⟨by rfl, ?y182⟩) hHeld ?_
        case y182 => (intro w hSw; (try dsimp only at hSw); go_simp; try (with_reducible rfl))
        try simp only [Act.put, List.setIfInBounds_toArray, List.set_cons_zero, List.set_cons_succ]
        refine wpAnyH_take (i := 3) (v := ?v183) (by simp only [List.getElem?_toArray, List.getElem?_cons_succ, List.getElem?_cons_zero]; exact rfl) (by kernel_rfl) (by kernel_rfl) (by kernel_rfl) (by intro _ _ _ h; exact h) (Or.inl ⟨by rfl, ?y183⟩) hHeld ?_
        case y183 => (intro w hSw; (try dsimp only at hSw); go_simp; try (with_reducible rfl))
        try simp only [Act.put, List.setIfInBounds_toArray, List.set_cons_zero, List.set_cons_succ]
        refine wpAnyH_take (i := 4) (v := ?v184) (by simp only [List.getElem?_toArray, List.getElem?_cons_succ, List.getElem?_cons_zero]; exact rfl) (by kernel_rfl) (by kernel_rfl) (by kernel_rfl) (by intro _ _ _ h; exact h) (Or.inl ⟨by rfl, ?y184⟩) hHeld ?_
        case y184 => (intro w hSw; (try dsimp only at hSw); go_simp; try (with_reducible rfl))
        try simp only [Act.put, List.setIfInBounds_toArray, List.set_cons_zero, List.set_cons_succ]
        refine wpAnyH_take (i := 5) (v := ?v185) (by simp only [List.getElem?_toArray, List.getElem?_cons_succ, List.getElem?_cons_zero]; exact rfl) (by kernel_rfl) (by kernel_rfl) (by kernel_rfl) (by intro _ _ _ h; exact h) (Or.inl ⟨by rfl, ?y185⟩) hHeld ?_
        case y185 => (intro w hSw; (try dsimp only at hSw); go_simp; try (with_reducible rfl))
        try simp only [Act.put, List.setIfInBounds_toArray, List.set_cons_zero, List.set_cons_succ]
        refine wpAnyH_take (i := 6) (v := ?v186) (by simp only [List.getElem?_toArray, List.getElem?_cons_succ, List.getElem?_cons_zero]; exact rfl) (by kernel_rfl) (by kernel_rfl) (by kernel_rfl) (by intro _ _ _ h; exact h) (Or.inl ⟨by rfl, ?y186⟩) hHeld ?_
        case y186 => (intro w hSw; (try dsimp only at hSw); go_simp; try (with_reducible rfl))
        try simp only [Act.put, List.setIfInBounds_toArray, List.set_cons_zero, List.set_cons_succ]
        refine wpAnyH_take (i := 7) (v := ?v187) (by simp only [List.getElem?_toArray, List.getElem?_cons_succ, List.getElem?_cons_zero]; exact rfl) (by kernel_rfl) (by kernel_rfl) (by kernel_rfl) (by intro _ _ _ h; exact h) (Or.inl ⟨by rfl, ?y187⟩) hHeld ?_
        case y187 => (intro w hSw; (try dsimp only at hSw); go_simp; try (with_reducible rfl))
        try simp only [Act.put, List.setIfInBounds_toArray, List.set_cons_zero, List.set_cons_succ]
        refine wpAnyH_take (i := 8) (v := ?v188) (by simp only [List.getElem?_toArray, List.getElem?_cons_succ, List.getElem?_cons_zero]; exact rfl) (by kernel_rfl) (by kernel_rfl) (by kernel_rfl) (by intro _ _ _ h; exact h) (Or.inl ⟨by rfl, ?y188⟩) hHeld ?_
        case y188 => (intro w hSw; (try dsimp only at hSw); go_simp; try (with_reducible rfl))
        try simp only [Act.put, List.setIfInBounds_toArray, List.set_cons_zero, List.set_cons_succ]
        refine wpAnyH_take (i := 9) (v := ?v189) (by simp only [List.getElem?_toArray, List.getElem?_cons_succ, List.getElem?_cons_zero]; exact rfl) (by kernel_rfl) (by kernel_rfl) (by kernel_rfl) (by intro _ _ _ h; exact h) (Or.inl ⟨by rfl, ?y189⟩) hHeld ?_
        case y189 => (intro w hSw; (try dsimp only at hSw); go_simp; try (with_reducible rfl))
        try simp only [Act.put, List.setIfInBounds_toArray, List.set_cons_zero, List.set_cons_succ]
        refine wpAnyH_take (i := 10) (v := ?v190) (by simp only [List.getElem?_toArray, List.getElem?_cons_succ, List.getElem?_cons_zero]; exact rfl) (by kernel_rfl) (by kernel_rfl) (by kernel_rfl) (by intro _ _ _ h; exact h) (Or.inl ⟨by rfl, ?y190⟩) hHeld ?_
        case y190 => (intro w hSw; (try dsimp only at hSw); go_simp; try (with_reducible rfl))
        try simp only [Act.put, List.setIfInBounds_toArray, List.set_cons_zero, List.set_cons_succ]
        refine wpAnyH_take (i := 11) (v := ?v191) (by simp only [List.getElem?_toArray, List.getElem?_cons_succ, List.getElem?_cons_zero]; exact rfl) (by kernel_rfl) (by kernel_rfl) (by kernel_rfl) (by intro _ _ _ h; exact h) (Or.inl ⟨by rfl, ?y191⟩) hHeld ?_
        case y191 => (intro w hSw; (try dsimp only at hSw); go_simp; try (with_reducible rfl))
        try simp only [Act.put, List.setIfInBounds_toArray, List.set_cons_zero, List.set_cons_succ]
        refine wpAnyH_take (i := 12) (v := ?v192) (by simp only [List.getElem?_toArray, List.getElem?_cons_succ, List.getElem?_cons_zero]; exact rfl) (by kernel_rfl) (by kernel_rfl) (by kernel_rfl) (by intro _ _ _ h; exact h) (Or.inl ⟨by rfl, ?y192⟩) hHeld ?_
        case y192 => (intro w hSw; (try dsimp only at hSw); go_simp; try (with_reducible rfl))
        try simp only [Act.put, List.setIfInBounds_toArray, List.set_cons_zero, List.set_cons_succ]
        refine wpAnyH_take (i := 13) (v := ?v193) (by simp only [List.getElem?_toArray, List.getElem?_cons_succ, List.getElem?_cons_zero]; exact rfl) (by kernel_rfl) (by kernel_rfl) (by kernel_rfl) (by intro _ _ _ h; exact h) (Or.inl ⟨by rfl, ?y193⟩) hHeld ?_
        case y193 => (intro w hSw; (try dsimp only at hSw); go_simp; try (with_reducible rfl))
        try simp only [Act.put, List.setIfInBounds_toArray, List.set_cons_zero, List.set_cons_succ]
        refine wpAnyH_take (i := 14) (v := ?v194) (by simp only [List.getElem?_toArray, List.getElem?_cons_succ, List.getElem?_cons_zero]; exact rfl) (by kernel_rfl) (by kernel_rfl) (by kernel_rfl) (by intro _ _ _ h; exact h) (Or.inl ⟨by rfl, ?y194⟩) hHeld ?_
        case y194 => (intro w hSw; (try dsimp only at hSw); go_simp; try (with_reducible rfl))
        try simp only [Act.put, List.setIfInBounds_toArray, List.set_cons_zero, List.set_cons_succ]
        refine wpAnyH_take (i := 15) (v := ?v195) (by simp only [List.getElem?_toArray, List.getElem?_cons_succ, List.getElem?_cons_zero]; exact rfl) (by kernel_rfl) (by kernel_rfl) (by kernel_rfl) (by intro _ _ _ h; exact h) (Or.inl ⟨by rfl, ?y195⟩) hHeld ?_
        case y195 => (intro w hSw; (try dsimp only at hSw); go_simp; try (with_reducible rfl))
        try simp only [Act.put, List.setIfInBounds_toArray, List.set_cons_zero, List.set_cons_succ]
        refine wpAnyH_take (i := 16) (v := ?v196) (by simp only [List.getElem?_toArray, List.getElem?_cons_succ, List.getElem?_cons_zero]; exact rfl) (by kernel_rfl) (by kernel_rfl) (by kernel_rfl) (by intro _ _ _ h; exact h) (Or.inl ⟨by rfl, ?y196⟩) hHeld ?_
        case y196 => (intro w hSw; (try dsimp only at hSw); go_simp; try (with_reducible rfl))
        try simp only [Act.put, List.setIfInBounds_toArray, List.set_cons_zero, List.set_cons_succ]
        refine wpAnyH_take (i := 17) (v := ?v197) (by simp only [List.getElem?_toArray, List.getElem?_cons_succ, List.getElem?_cons_zero]; exact rfl) (by kernel_rfl) (by kernel_rfl) (by kernel_rfl) (by intro _ _ _ h; exact h) (Or.inl ⟨by rfl, ?y197⟩) hHeld ?_
        case y197 => (intro w hSw; (try dsimp only at hSw); go_simp; try (with_reducible rfl))
        try simp only [Act.put, List.setIfInBounds_toArray, List.set_cons_zero, List.set_cons_succ]
        refine wpAnyH_take (i := 18) (v := ?v198) (by simp only [List.getElem?_toArray, List.getElem?_cons_succ, List.getElem?_cons_zero]; exact rfl) (by kernel_rfl) (by kernel_rfl) (by kernel_rfl) (by intro _ _ _ h; exact h) (Or.inl ⟨by rfl, ?y198⟩) hHeld ?_
        case y198 => (intro w hSw; (try dsimp only at hSw); go_simp; try (with_reducible rfl))
        try simp only [Act.put, List.setIfInBounds_toArray, List.set_cons_zero, List.set_cons_succ]
        refine wpAnyH_take (i := 19) (v := ?v199) (by simp only [List.getElem?_toArray, List.getElem?_cons_succ, List.getElem?_cons_zero]; exact rfl) (by kernel_rfl) (by kernel_rfl) (by kernel_rfl) (by intro _ _ _ h; exact h) (Or.inl ⟨by rfl, ?y199⟩) hHeld ?_
        case y199 => (intro w hSw; (try dsimp only at hSw); go_simp; try (with_reducible rfl))
        try simp only [Act.put, List.setIfInBounds_toArray, List.set_cons_zero, List.set_cons_succ]
        refine wpAnyH_take (i := 20) (v := ?v200) (by simp only [List.getElem?_toArray, List.getElem?_cons_succ, List.getElem?_cons_zero]; exact rfl) (by kernel_rfl) (by kernel_rfl) (by kernel_rfl) (by intro _ _ _ h; exact h) (Or.inl ⟨by rfl, ?y200⟩) hHeld ?_
        case y200 => (intro w hSw; (try dsimp only at hSw); go_simp; try (with_reducible rfl))
        try simp only [Act.put, List.setIfInBounds_toArray, List.set_cons_zero, List.set_cons_succ]
        refine wpAnyH_take (i := 21) (v := ?v201) (by simp only [List.getElem?_toArray, List.getElem?_cons_succ, List.getElem?_cons_zero]; exact rfl) (by kernel_rfl) (by kernel_rfl) (by kernel_rfl) (by intro _ _ _ h; exact h) (Or.inl ⟨by rfl, ?y201⟩) hHeld ?_
        case y201 => (intro w hSw; (try dsimp only at hSw); go_simp; try (with_reducible rfl))
        try simp only [Act.put, List.setIfInBounds_toArray, List.set_cons_zero, List.set_cons_succ]
        refine wpAnyH_take (i := 22) (v := ?v202) (by simp only [List.getElem?_toArray, List.getElem?_cons_succ, List.getElem?_cons_zero]; exact rfl) (by kernel_rfl) (by kernel_rfl) (by kernel_rfl) (by intro _ _ _ h; exact h) (Or.inl ⟨by rfl, ?y202⟩) hHeld ?_
        case y202 => (intro w hSw; (try dsimp only at hSw); go_simp; try (with_reducible rfl))
        try simp only [Act.put, List.setIfInBounds_toArray, List.set_cons_zero, List.set_cons_succ]
        refine wpAnyH_take (i := 23) (v := ?v203) (by simp only [List.getElem?_toArray, List.getElem?_cons_succ, List.getElem?_cons_zero]; exact rfl) (by kernel_rfl) (by kernel_rfl) (by kernel_rfl) (by intro _ _ _ h; exact h) (Or.inl ⟨by rfl, ?y203⟩) hHeld ?_
        case y203 => (intro w hSw; (try dsimp only at hSw); go_simp; try (with_reducible rfl))
        try simp only [Act.put, List.setIfInBounds_toArray, List.set_cons_zero, List.set_cons_succ]
        refine wpAnyH_take (i := 24) (v := ?v204) (by simp only [List.getElem?_toArray, List.getElem?_cons_succ, List.getElem?_cons_zero]; exact rfl) (by kernel_rfl) (by kernel_rfl) (by kernel_rfl) (by intro _ _ _ h; exact h) (Or.inl ⟨by rfl, ?y204⟩) hHeld ?_
        case y204 => (intro w hSw; (try dsimp only at hSw); go_simp; try (with_reducible rfl))
        try simp only [Act.put, List.setIfInBounds_toArray, List.set_cons_zero, List.set_cons_succ]
        refine wpAnyH_take (i := 25) (v := ?v205) (by simp only [List.getElem?_toArray, List.getElem?_cons_succ, List.getElem?_cons_zero]; exact rfl) (by kernel_rfl) (by kernel_rfl) (by kernel_rfl) (by intro _ _ _ h; exact h) (Or.inl ⟨by rfl, ?y205⟩) hHeld ?_
        case y205 => (intro w hSw; (try dsimp only at hSw); go_simp; try (with_reducible rfl))
        try simp only [Act.put, List.setIfInBounds_toArray, List.set_cons_zero, List.set_cons_succ]
        refine wpAnyH_take (i := 26) (v := ?v206) (by simp only [List.getElem?_toArray, List.getElem?_cons_succ, List.getElem?_cons_zero]; exact rfl) (by kernel_rfl) (by kernel_rfl) (by kernel_rfl) (by intro _ _ _ h; exact h) (Or.inl ⟨by rfl, ?y206⟩) hHeld ?_
        case y206 => (intro w hSw; (try dsimp only at hSw); go_simp; try (with_reducible rfl))
        try simp only [Act.put, List.setIfInBounds_toArray, List.set_cons_zero, List.set_cons_succ]
        refine wpAnyH_done (by kernel_rfl) ?_ _
        go_wp2
        go_roundw
        case rel => exact ⟨m + 1, s2, F2, by omega, by go_num, HS3, hS4, hg.dr⟩
        case measure => (simp [intOf] <;> omega)
theorem growE_any {σ : Type} {St : (Nat → Prop) → σ → World → Prop} {ef : List (List Nat) → σ → σ} {N cb db : Nat} {K : List (List Nat) → Prop} (HE : EachT Tryz.prog N cb db St ef K) {E : List (Nat × Nat)} {n : Nat} (hE : EdgeL n E)
    (hK : ∀ t, HasE n t E → K t) {xb tb to tc ec : Nat} {ea : Option Addr} : ∀ m k : Nat, k + m = E.length → GrowsTo Tryz.prog 89 St ef E xb tb to n tc N cb db ea ec k
  | 0, k, h => by
    obtain rfl : k = E.length := by omega
    exact growE_end HE hK
  | m + 1, k, h => growE_step HE hE (by omega) (growE_any HE hE hK m (k + 1) (by omega))
end Go.Proofs.YtdbanndcdbikmaaGreatDoor
