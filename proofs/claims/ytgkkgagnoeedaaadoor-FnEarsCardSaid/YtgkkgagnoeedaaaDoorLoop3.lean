/- The least loop of some lengths, by the program. -/
import Derived.Test.YtgkkgagnoeedaaaDoorLoopL
import Derived.Test.YtgkkgagnoeedaaaDoorFit
import Derived.Test.YtgkkgagnoeedaaaDoorDist1
import Derived.Test.YtgkkgagnoeedaaaDoorFit2
import Derived.Test.YtgkkgagnoeedaaaDoorSmall
namespace Go.Proofs.YtgkkgagnoeedaaaDoor
open Go.RowKit
theorem quiet_same2 {P : Program} {f : FuncId} {args : Array Value} {w : World} {k n : Nat} {v : Value}
    (h : Calls P f args (w.drewN (k + n)) fun e w' => e = .returned v ∧ w.drewN (k + n) = w') : Calls P f args (w.drewN (k + n)) fun e w'' => e = .returned v ∧ ∃ m, w'' = w.drewN (k + m) :=
  h.mono fun _ _ ⟨he, hm⟩ => ⟨he, n, hm.symm⟩
/-- Distances, by a list. -/
def farF (Dl : List Int) (u : Nat) : Int := Dl.getD u 0
theorem farF_get {Dl : List Int} {v : Nat} (h : v < Dl.length) : farF Dl v = Dl[v] := by simp [farF, h]
/-- What is protected is as it was. -/
def XK (X : Nat → Prop) (w0 w : World) : Prop := w0.heap.size ≤ w.heap.size ∧ ∀ b, X b → w.heap[b]? = w0.heap[b]?
theorem XK.refl (X : Nat → Prop) (w : World) : XK X w w := ⟨Nat.le_refl _, fun _ _ => rfl⟩
theorem XK.keeps {X F : Nat → Prop} {w0 w w' : World} (h : XK X w0 w) (k : Keeps F w w') (hX : ∀ b, X b → b < w0.heap.size ∧ ¬ F b) : XK X w0 w' :=
  ⟨Nat.le_trans h.1 k.size, fun b hb => (k.block b (Nat.lt_of_lt_of_le (hX b hb).1 h.1) (hX b hb).2).trans (h.2 b hb)⟩
theorem Keeps.refl (F : Nat → Prop) (w : World) : Keeps F w w := ⟨rfl, rfl, rfl, Nat.le_refl _, fun _ _ _ => rfl⟩
theorem Keeps.trans {F : Nat → Prop} {a b c : World} (h : Keeps F a b) {G : Nat → Prop} (k : Keeps G b c) (hG : ∀ x, x < a.heap.size → G x → F x) : Keeps F a c :=
  ⟨k.os.trans h.os, k.tape.trans h.tape, k.output.trans h.output, Nat.le_trans h.size k.size, fun x hx hF => (k.block x (Nat.lt_of_lt_of_le hx h.size) (fun hg => hF (hG x hx hg))).trans (h.block x hx hF)⟩
theorem Keeps.ofBelow {w w' : World} (F : Nat → Prop) (h : Below w.heap.size w w') : Keeps F w w' := ⟨h.os, h.tape, h.output, h.size, fun b hb _ => h.block b hb⟩
theorem Keeps.ofDrawn {w w' : World} (F : Nat → Prop) (h : Drawn w w') : Keeps F w w' := Keeps.ofBelow F (h.below _)
theorem Keeps.ofKept {w w' : World} {r : Option Nat} {F : Nat → Prop} (h : KeptBut w w' r) (hr : ∀ b, r = some b → F b) : Keeps F w w' :=
  ⟨h.1, h.2.1, h.2.2.1, h.2.2.2.1, fun b hb hF => h.2.2.2.2 b hb (fun e => hF (hr b e.symm))⟩
theorem Keeps.set {w : World} {F : Nat → Prop} {a : Addr} (hF : F a.block) (v : Value) : Keeps F w (w.setCell a v) :=
  ⟨rfl, rfl, rfl, by simp, fun b hb hn => Below.heap_setCell _ _ _ _ (fun e => hn (by rw [e]; exact hF))⟩
/-- The search's own memory: its block, the path in a block of its own. -/
structure GL (X : Nat → Prop) (E FS : TypeId) (w : World) (B sb : Nat) (av fv fit : Value) (L : Nat) (pv : Value) (p : List Nat) : Prop where
  row : Own w B FS 6 (.slice (some ⟨sb, 0, none⟩) 1 1) 1 [av, fv, .int .i64 (L : Int), pv, .int .u32 (maskN p : Int), fit]
  own : Own w B E 1 pv p.length ((natsI p).map (.int .i64))
  ne : ∀ b, pv.ownBlock = some b → b ≠ sb ∧ ¬ X b
  nx : ¬ X sb
theorem row6 {w : World} {B sb : Nat} {FS : TypeId} {a b c d e f : Value} (h : Own w B FS 6 (.slice (some ⟨sb, 0, none⟩) 1 1) 1 [a, b, c, d, e, f]) :
    w.cell? ⟨sb, 0, none⟩ = some a ∧ w.cell? ⟨sb, 1, none⟩ = some b ∧ w.cell? ⟨sb, 2, none⟩ = some c ∧ w.cell? ⟨sb, 3, none⟩ = some d ∧ w.cell? ⟨sb, 4, none⟩ = some e ∧ w.cell? ⟨sb, 5, none⟩ = some f ∧ (∀ j, w.frozen? ⟨sb, j, none⟩ = false) ∧ B ≤ sb ∧ sb < w.heap.size :=
  ⟨World.ownsRow.cellAt h 0 (by omega), World.ownsRow.cellAt h 1 (by omega), World.ownsRow.cellAt h 2 (by omega), World.ownsRow.cellAt h 3 (by omega), World.ownsRow.cellAt h 4 (by omega), World.ownsRow.cellAt h 5 (by omega), fun j => World.ownsRow.frozenAt h j, (h.lt sb rfl).1, (h.lt sb rfl).2⟩
theorem GL.keeps {X : Nat → Prop} {E FS : TypeId} {w w' : World} {B sb : Nat} {av fv fit pv : Value} {L : Nat} {p : List Nat} (h : GL X E FS w B sb av fv fit L pv p) {F : Nat → Prop} (k : Keeps F w w') (h1 : ¬ F sb) (h2 : ∀ b, pv.ownBlock = some b → ¬ F b) : GL X E FS w' B sb av fv fit L pv p :=
  ⟨h.row.keep fun b hb => k.block b (h.row.lt b hb).2 (by (have : sb = b := by simpa [Value.ownBlock] using hb); rw [← this]; exact h1), h.own.keep fun b hb => k.block b (h.own.lt b hb).2 (h2 b hb), h.ne, h.nx⟩
theorem GL.below {X : Nat → Prop} {E FS : TypeId} {w w' : World} {B sb : Nat} {av fv fit pv : Value} {L : Nat} {p : List Nat} (h : GL X E FS w B sb av fv fit L pv p) (k : Below w.heap.size w w') : GL X E FS w' B sb av fv fit L pv p :=
  h.keeps (F := fun _ => False) (Keeps.ofBelow _ k) (fun h => h) (fun _ _ h => h)
/-- The two stores into the search's memory. -/
theorem GL.store {X : Nat → Prop} {E FS : TypeId} {w' : World} {B sb : Nat} {av fv fit pv pv' m : Value} {L : Nat} {p' : List Nat}
    (hrow : Own w' B FS 6 (.slice (some ⟨sb, 0, none⟩) 1 1) 1 [av, fv, .int .i64 (L : Int), pv, m, fit]) (hown : Own w' B E 1 pv' p'.length ((natsI p').map (.int .i64))) (hne : ∀ b, pv'.ownBlock = some b → b ≠ sb ∧ ¬ X b) (hnx : ¬ X sb) :
    GL X E FS ((w'.setCell ⟨sb, 3, none⟩ pv').setCell ⟨sb, 4, none⟩ (.int .u32 (maskN p' : Int))) B sb av fv fit L pv' p' := by
  have hrow2 := (hrow.stored 3 pv').stored 4 (.int .u32 (maskN p' : Int))
  have hset : ∀ b, b ≠ sb → ((w'.setCell ⟨sb, 3, none⟩ pv').setCell ⟨sb, 4, none⟩ (.int .u32 (maskN p' : Int))).heap[b]? = w'.heap[b]? := fun b hb =>
    (Below.heap_setCell _ _ _ _ (fun e => hb (by simpa [eq_comm] using e))).trans (Below.heap_setCell _ _ _ _ (fun e => hb (by simpa [eq_comm] using e)))
  exact ⟨by simpa using hrow2, hown.keep fun k hk2 => hset k (hne k hk2).1, hne, hnx⟩
/-- What the search answers: found or not, the path at the end. -/
def LPost (X : Nat → Prop) (E FS : TypeId) (w : World) (B sb : Nat) (av fv fit : Value) (L : Nat) (pv : Value) (p : List Nat) (o : Option (List Nat)) (e : Ending) (w' : World) : Prop :=
  ∃ pv', e = .returned (.bool o.isSome) ∧ GL X E FS w' B sb av fv fit L pv' (o.getD p) ∧ Keeps (fun b => b = sb ∨ pv.ownBlock = some b) w w' ∧ (∀ b, pv'.ownBlock = some b → pv.ownBlock = some b ∨ w.heap.size ≤ b)
theorem dfs_path {H : List Nat} {far : Nat → Int} {L n d : Nat} {ft : List Nat → Nat → Bool} {p q : List Nat} (hH : ∀ m ∈ H, m < 2 ^ n) (hn : n ≤ 16) (hp : PathN H n p) (h : dfsF (candN H far L ft) (finN H) d p = some q) : PathN H n q ∧ q.length = p.length + d := by
  obtain ⟨t, rfl, he, -⟩ := dfs_some (cand_sorted H far L ft) h
  obtain ⟨h1, -, h3, -⟩ := ext_path hH hn hp he
  exact ⟨h1, by simp [h3]⟩
set_option maxRecDepth 100000 in
set_option maxHeartbeats 8000000 in
theorem lgrow_any {X : Nat → Prop} {N : Nat} {cb : Array Value} {av fv : Value} {H : List Nat} {Dl : List Int} {L B sb n : Nat} {ft : List Nat → Nat → Bool} {w0 : World}
    (ent : ∀ (args : Array Value) (w : World), (callFunc N args).run Tryd.prog w = .ok (.enter N args) w)
    (hR : ∀ w, XK X w0 w → SlI (fun _ => True) w .u32 av (natsI H) ∧ SlI (fun _ => True) w .i64 fv Dl ∧ Tab w)
    (hfit : ∀ (p : List Nat) (v : Nat) (pv : Value) (w : World), XK X w0 w → PathN H n p → v < n → p.length < L → SlI (fun _ => True) w .i64 pv (natsI p) → Calls Tryd.prog N (#[pv, .int .i64 (v : Int)] ++ cb) w fun e w' => e = .returned (.bool (ft p v)) ∧ Below w.heap.size w w')
    (hX : ∀ b, X b → b < w0.heap.size) (hH : ∀ m ∈ H, m < 2 ^ n) (hn : n ≤ 16) (hHl : n = H.length) (hDl : Dl.length = n) (hL : L ≤ 16) :
    ∀ (d : Nat) (p : List Nat) (pv : Value) (w : World), p.length + d = L → PathN H n p → XK X w0 w → GL X 3 90 w B sb av fv (.func (Fn.func N) #[] cb) L pv p → B ≤ w.heap.size →
      Calls Tryd.prog 72 #[.pointer (some ⟨sb, 0, none⟩)] w (LPost X 3 90 w B sb av fv (.func (Fn.func N) #[] cb) L pv p (dfsF (candN H (farF Dl) L ft) (finN H) d p)) := by
  subst hHl
  have HDl := Lib.hid hDl
  clear hDl
  intro d
  induction d with
  | zero =>
    intro p pv w hpd hp hXK hG hB
    obtain ⟨hvA, -, -⟩ := hR w hXK
    obtain ⟨c0, c1, c2, c3, c4, c5, hfz, hsB, hsl⟩ := row6 hG.row
    have hp0 := hp.ne
    have hpi := hG.own.ints (xs := natsI p) (by omega)
    obtain ⟨pb, po, pc, hpe, hpcc⟩ := hpi.at_
    have hpe := hpe (by rw [natsI_len]; exact hp0)
    rw [natsI_len] at hpe
    obtain ⟨ab, ao, ac, hae, hac⟩ := hvA.at_
    have hlast : lastN p < H.length := hp.lt _ (getD_mem (by omega))
    have hae := hae (by rw [natsI_len]; omega)
    rw [natsI_len] at hae
    have e1 : w.cell? ⟨pb, po + (p.length - 1), none⟩ = some (.int .i64 ((lastN p : Nat) : Int)) := by
      rw [hpcc (p.length - 1) (by rw [natsI_len]; omega), natsI_get]; simp [lastN, show p.length - 1 < p.length by omega]
    have e2 : w.cell? ⟨pb, po + 0, none⟩ = some (.int .i64 ((p.getD 0 0 : Nat) : Int)) := by
      rw [hpcc 0 (by rw [natsI_len]; omega), natsI_get]; simp [hp0]
    rw [Nat.add_zero] at e2
    have e3 : w.cell? ⟨ab, ao + lastN p, none⟩ = some (.int .u32 ((H.getD (lastN p) 0 : Nat) : Int)) := by
      rw [hac (lastN p) (by rw [natsI_len]; omega), natsI_get]; simp [show lastN p < H.length by omega]
    have hml : H.getD (lastN p) 0 < 4294967296 := by
      have : H.getD (lastN p) 0 = H[lastN p]'(by omega) := by simp [show lastN p < H.length by omega]
      rw [this]
      exact Nat.lt_trans (hH _ (List.getElem_mem _)) (pow16_lt hn)
    have hf0 : p.getD 0 0 < 32 := by have := hp.lt _ (getD_mem hp0); omega
    have hw1 : IntKind.i64.wrap ((p.length : Int) - 1) = (p.length : Int) - 1 := IntWalk.i64_in _ (by omega)
    have hw2 : ((p.length : Int) - 1).toNat = p.length - 1 := by omega
    have hw3 : (0 : Int) ≤ (p.length : Int) - 1 := by omega
    have hw4 : (p.length : Int) - 1 < p.length := by omega
    have hw5 : (0 : Int) < (p.length : Int) := by omega
    have hlq : ((p.length : Int) == (L : Int)) = true := by rw [beq_iff_eq]; omega
    have hlq2 : (p.length == L) = true := by rw [beq_iff_eq]; omega
    have HS := Lib.hid (show dfsF (candN H (farF Dl) L ft) (finN H) 0 p = if (H.getD (lastN p) 0).testBit (p.getD 0 0) = true then some p else none from rfl)
    have HG := Lib.hid hG
    subst hpe
    subst hae
    generalize lastN p = z at *
    generalize H.getD z 0 = mz at *
    generalize p.getD 0 0 = f0 at *
    have HPD := Lib.hid hpd
    clear hG hpi hpcc hac hpd hvA hfz
    go_enter Tryd.func72, Tryd.ntmps72
    go_wp2
    go_quiet (fail)
    go_wp2
    go_quiet (fail)
    go_wp2
    go_quiet ((go_at_call 107; first | exact quiet_same2 (has_any _ _ _ (by assumption) (by omega)) | exact quiet_same (has_any _ _ _ (by assumption) (by omega))))
    go_wp2
    go_ret
    rw [HS.out]
    have hkk := HG.out
    cases hb : mz.testBit f0
    · simp only [Bool.false_eq_true, if_false]
      exact ⟨_, rfl, hkk.below (Drawn.below (by repeat (first | exact Drawn.refl _ | refine Drawn.drewN ?_ _ | refine Drawn.drew ?_)) _), Keeps.ofDrawn _ (by repeat (first | exact Drawn.refl _ | refine Drawn.drewN ?_ _ | refine Drawn.drew ?_)), fun b h => .inl h⟩
    · simp only [if_true]
      exact ⟨_, rfl, hkk.below (Drawn.below (by repeat (first | exact Drawn.refl _ | refine Drawn.drewN ?_ _ | refine Drawn.drew ?_)) _), Keeps.ofDrawn _ (by repeat (first | exact Drawn.refl _ | refine Drawn.drewN ?_ _ | refine Drawn.drew ?_)), fun b h => .inl h⟩
  | succ d ih =>
    intro p pv w hpd hp hXK hG hB
    obtain ⟨hvA, -, htab⟩ := hR w hXK
    obtain ⟨c0, c1, c2, c3, c4, c5, hfz, hsB, hsl⟩ := row6 hG.row
    have hp0 := hp.ne
    have hpi := hG.own.ints (xs := natsI p) (by omega)
    obtain ⟨pb, po, pc, hpe, hpcc⟩ := hpi.at_
    replace hpe := hpe (by rw [natsI_len]; exact hp0)
    rw [natsI_len] at hpe
    obtain ⟨ab, ao, ac, hae, hac⟩ := hvA.at_
    have hlast : lastN p < H.length := hp.lt _ (getD_mem (by omega))
    replace hae := hae (by rw [natsI_len]; omega)
    rw [natsI_len] at hae
    have e1 : w.cell? ⟨pb, po + (p.length - 1), none⟩ = some (.int .i64 ((lastN p : Nat) : Int)) := by
      rw [hpcc (p.length - 1) (by rw [natsI_len]; omega), natsI_get]; simp [lastN, show p.length - 1 < p.length by omega]
    have e3 : w.cell? ⟨ab, ao + lastN p, none⟩ = some (.int .u32 ((H.getD (lastN p) 0 : Nat) : Int)) := by
      rw [hac (lastN p) (by rw [natsI_len]; omega), natsI_get]; simp [show lastN p < H.length by omega]
    have hml0 : H.getD (lastN p) 0 < 2 ^ H.length := by
      have : H.getD (lastN p) 0 = H[lastN p]'(by omega) := by simp [show lastN p < H.length by omega]
      rw [this]
      exact hH _ (List.getElem_mem _)
    have hml : H.getD (lastN p) 0 < 4294967296 := Nat.lt_trans hml0 (pow16_lt hn)
    have hpl : maskN p < 4294967296 := by
      have := maskN_lt (p := p) (n := 32) (fun a ha => by have := hp.lt a ha; omega); simpa using this
    have han : bits BinOp.andNot IntKind.u32 ((H.getD (lastN p) 0 : Nat) : Int) (maskN p : Int) = (andN (H.getD (lastN p) 0) (maskN p) : Int) := u32_andNot_nat _ _ hml hpl
    have hal : andN (H.getD (lastN p) 0) (maskN p) < 4294967296 := Nat.lt_of_le_of_lt (andN_le _ _) hml
    have hw1 : IntKind.i64.wrap ((p.length : Int) - 1) = (p.length : Int) - 1 := IntWalk.i64_in _ (by omega)
    have hw2 : ((p.length : Int) - 1).toNat = p.length - 1 := by omega
    have hw3 : (0 : Int) ≤ (p.length : Int) - 1 := by omega
    have hw4 : (p.length : Int) - 1 < p.length := by omega
    have hlq : ((p.length : Int) == (L : Int)) = false := by rw [beq_eq_false_iff_ne]; omega
    have hlq2 : (p.length == L) = false := by rw [beq_eq_false_iff_ne]; omega
    have hplt : p.length < L := by omega
    have HG := Lib.hid hG
    subst hpe
    subst hae
    -- what follows: the vertices of M, filtered
    obtain ⟨M, hM⟩ : ∃ M, M = andN (H.getD (lastN p) 0) (maskN p) := ⟨_, rfl⟩
    have HCand := Lib.hid (show candN H (farF Dl) L ft p = (bitsN M).filter fun v => decide (0 ≤ farF Dl v) && decide (farF Dl v ≤ (L : Int) - p.length) && ft p v by rw [hM]; rfl)
    have HMem := Lib.hid (show ∀ v ∈ bitsN M, v < H.length ∧ v ∉ p ∧ PathN H H.length (p ++ [v]) from fun v hv => by
      rw [hM, mem_bitsN hal, testBit_andN hml hpl, testBit_maskN] at hv
      simp only [Bool.and_eq_true, Bool.not_eq_true', decide_eq_false_iff_not] at hv
      exact ⟨bit_lt_of hml0 hv.1, hv.2, hp.snoc (bit_lt_of hml0 hv.1) hv.2 hv.1⟩)
    have hM32 : M < 4294967296 := by rw [hM]; exact hal
    rw [← hM] at han
    have HP := Lib.hid hp
    have HPD := Lib.hid hpd
    have HLast := Lib.hid hlast
    generalize lastN p = z at *
    generalize H.getD z 0 = mz at *
    have HS := Lib.hid (show dfsF (candN H (farF Dl) L ft) (finN H) (d + 1) p = tryL (fun v => dfsF (candN H (farF Dl) L ft) (finN H) d (p ++ [v])) (candN H (farF Dl) L ft p) from rfl)
    clear hG hpi hpcc hac hpd hvA hfz hp hM hal
    go_enter Tryd.func72, Tryd.ntmps72
    go_wp2
    go_quiet (fail)
    have hd1 : Drawn w (w.drewN nq) := (Drawn.refl _).drewN _
    generalize w.drewN nq = wa at hd1 ⊢
    have HP3 := Lib.hid c3
    replace c0 := (hd1.cell _).trans c0
    replace c1 := (hd1.cell _).trans c1
    replace c2 := (hd1.cell _).trans c2
    replace c3 := (hd1.cell _).trans c3
    replace c4 := (hd1.cell _).trans c4
    replace e3 := (hd1.cell _).trans e3
    clear e1
    go_wp2
    go_quiet (fail)
    have hd2 : Drawn w (wa.drewN nq) := hd1.drewN _
    have hd3 : Drawn wa (wa.drewN nq) := (Drawn.refl _).drewN _
    generalize wa.drewN nq = wb at hd2 hd3 ⊢
    replace c0 := (hd3.cell _).trans c0
    replace c4 := (hd3.cell _).trans c4
    replace e3 := (hd3.cell _).trans e3
    clear c1 c2 c3 hd3 hd1
    go_wp2
    have HLB := Lib.hid (show (bitsI M).length = (bitsN M).length by simp [bitsI])
    refine wp_region_held_drew (S := (fun w' => w'.cell? ⟨sb, 0, none⟩ = some (.slice (some ⟨ab, ao, none⟩) H.length ac) ∧ w'.cell? ⟨sb, 4, none⟩ = some (.int .u32 (maskN p : Int)) ∧ w'.cell? ⟨ab, ao + z, none⟩ = some (.int .u32 (mz : Int)))) (by kernel_rfl) ?_ (fun hHeld => ?_)
    · first | exact ⟨‹_›, ‹_›, ‹_›⟩ | assumption | (simp [*, go_sem])
    have hdw := hd2.drew
    generalize wb.drew = wd at hdw hHeld ⊢
    refine wpAnyH_take (i := 0) (v := ?v1) (by simp only [List.getElem?_toArray, List.getElem?_cons_zero]; exact rfl) (by kernel_rfl) (by kernel_rfl) (by kernel_rfl) (by intro _ _ _ h; exact h) (Or.inl ⟨by rfl, ?y1⟩) hHeld ?_
    case y1 => (intro w hSw; (try dsimp only at hSw); go_simp; try (with_reducible rfl))
    try simp only [Act.put, List.setIfInBounds_toArray, List.set_cons_zero, List.set_cons_succ]
    refine wpAnyH_take (i := 1) (v := ?v2) (by simp only [List.getElem?_toArray, List.getElem?_cons_succ, List.getElem?_cons_zero]; exact rfl) (by kernel_rfl) (by kernel_rfl) (by kernel_rfl) (by intro _ _ _ h; exact h) (Or.inl ⟨by rfl, ?y2⟩) hHeld ?_
    case y2 => (intro w hSw; (try dsimp only at hSw); go_simp; try (with_reducible rfl))
    try simp only [Act.put, List.setIfInBounds_toArray, List.set_cons_zero, List.set_cons_succ]
    refine wpAnyH_take (i := 2) (v := ?v3) (by simp only [List.getElem?_toArray, List.getElem?_cons_succ, List.getElem?_cons_zero]; exact rfl) (by kernel_rfl) (by kernel_rfl) (by kernel_rfl) (by intro _ _ _ h; exact h) (Or.inl ⟨by rfl, ?y3⟩) hHeld ?_
    case y3 => (intro w hSw; (try dsimp only at hSw); go_simp; try (with_reducible rfl))
    try simp only [Act.put, List.setIfInBounds_toArray, List.set_cons_zero, List.set_cons_succ]
    refine wpAnyH_take (i := 3) (v := ?v4) (by simp only [List.getElem?_toArray, List.getElem?_cons_succ, List.getElem?_cons_zero]; exact rfl) (by kernel_rfl) (by kernel_rfl) (by kernel_rfl) (by intro _ _ _ h; exact h) (Or.inl ⟨by rfl, ?y4⟩) hHeld ?_
    case y4 => (intro w hSw; (try dsimp only at hSw); go_simp; try (with_reducible rfl))
    try simp only [Act.put, List.setIfInBounds_toArray, List.set_cons_zero, List.set_cons_succ]
    refine wpAnyH_take (i := 4) (v := ?v5) (by simp only [List.getElem?_toArray, List.getElem?_cons_succ, List.getElem?_cons_zero]; exact rfl) (by kernel_rfl) (by kernel_rfl) (by kernel_rfl) (by intro _ _ _ h; exact h) (Or.inl ⟨by rfl, ?y5⟩) hHeld ?_
    case y5 => (intro w hSw; (try dsimp only at hSw); go_simp; try (with_reducible rfl))
    try simp only [Act.put, List.setIfInBounds_toArray, List.set_cons_zero, List.set_cons_succ]
    refine wpAnyH_take (i := 5) (v := ?v6) (by simp only [List.getElem?_toArray, List.getElem?_cons_succ, List.getElem?_cons_zero]; exact rfl) (by kernel_rfl) (by kernel_rfl) (by kernel_rfl) (by intro _ _ _ h; exact h) (Or.inl ⟨by rfl, ?y6⟩) hHeld ?_
    case y6 => (intro w hSw; (try dsimp only at hSw); go_simp; try (with_reducible rfl))
    try simp only [Act.put, List.setIfInBounds_toArray, List.set_cons_zero, List.set_cons_succ]
    refine wpAnyH_take (i := 6) (v := ?v7) (by simp only [List.getElem?_toArray, List.getElem?_cons_succ, List.getElem?_cons_zero]; exact rfl) (by kernel_rfl) (by kernel_rfl) (by kernel_rfl) (by intro _ _ _ h; exact h) (Or.inl ⟨by rfl, ?y7⟩) hHeld ?_
    case y7 => (intro w hSw; (try dsimp only at hSw); go_simp; try (with_reducible rfl))
    try simp only [Act.put, List.setIfInBounds_toArray, List.set_cons_zero, List.set_cons_succ]
    refine wpAnyH_take (i := 7) (v := ?v8) (by simp only [List.getElem?_toArray, List.getElem?_cons_succ, List.getElem?_cons_zero]; exact rfl) (by kernel_rfl) (by kernel_rfl) (by kernel_rfl) (by intro _ _ _ h; exact h) (Or.inl ⟨by rfl, ?y8⟩) hHeld ?_
    case y8 => (intro w hSw; (try dsimp only at hSw); go_simp; try (with_reducible rfl))
    try simp only [Act.put, List.setIfInBounds_toArray, List.set_cons_zero, List.set_cons_succ]
    refine wpAnyH_take (i := 8) (v := ?v9) (by simp only [List.getElem?_toArray, List.getElem?_cons_succ, List.getElem?_cons_zero]; exact rfl) (by kernel_rfl) (by kernel_rfl) (by kernel_rfl) (by intro _ _ _ h; exact h) (Or.inl ⟨by rfl, ?y9⟩) hHeld ?_
    case y9 => (intro w hSw; (try dsimp only at hSw); go_simp; try (with_reducible rfl))
    try simp only [Act.put, List.setIfInBounds_toArray, List.set_cons_zero, List.set_cons_succ]
    refine wpAnyH_take (i := 9) (v := ?v10) (by simp only [List.getElem?_toArray, List.getElem?_cons_succ, List.getElem?_cons_zero]; exact rfl) (by kernel_rfl) (by kernel_rfl) (by kernel_rfl) (by intro _ _ _ h; exact h) (Or.inl ⟨by rfl, ?y10⟩) hHeld ?_
    case y10 => (intro w hSw; (try dsimp only at hSw); go_simp; try (with_reducible rfl))
    try simp only [Act.put, List.setIfInBounds_toArray, List.set_cons_zero, List.set_cons_succ]
    refine wpAnyH_take (i := 10) (v := ?v11) (by simp only [List.getElem?_toArray, List.getElem?_cons_succ, List.getElem?_cons_zero]; exact rfl) (by kernel_rfl) (by kernel_rfl) (by kernel_rfl) (by intro _ _ _ h; exact h) (Or.inl ⟨by rfl, ?y11⟩) hHeld ?_
    case y11 => (intro w hSw; (try dsimp only at hSw); go_simp; try (with_reducible rfl))
    try simp only [Act.put, List.setIfInBounds_toArray, List.set_cons_zero, List.set_cons_succ]
    refine wpAnyH_take (i := 11) (v := ?v12) (by simp only [List.getElem?_toArray, List.getElem?_cons_succ, List.getElem?_cons_zero]; exact rfl) (by kernel_rfl) (by kernel_rfl) (by kernel_rfl) (by intro _ _ _ h; exact h) (Or.inl ⟨by rfl, ?y12⟩) hHeld ?_
    case y12 => (intro w hSw; (try dsimp only at hSw); go_simp; try (with_reducible rfl))
    try simp only [Act.put, List.setIfInBounds_toArray, List.set_cons_zero, List.set_cons_succ]
    refine wpAnyH_take (i := 14) (v := ?v13) (by simp only [List.getElem?_toArray, List.getElem?_cons_succ, List.getElem?_cons_zero]; exact rfl) (by kernel_rfl) (by kernel_rfl) (by kernel_rfl) (by intro _ _ _ h; exact h) (Or.inl ⟨by rfl, ?y13⟩) hHeld ?_
    case y13 => (intro w hSw; (try dsimp only at hSw); go_simp; try (with_reducible rfl))
    try simp only [Act.put, List.setIfInBounds_toArray, List.set_cons_zero, List.set_cons_succ]
    refine wpAnyH_ready (rs := [12]) (by kernel_rfl) (by simp) ?_
    refine AllReadyH.cons (by simp only [List.getElem?_toArray, List.getElem?_cons_succ, List.getElem?_cons_zero]; exact rfl) (fun K hK => ?_) AllReadyH.nil
    go_simp
    refine (list_any M wd (htab.below (hdw.below w.heap.size) (Nat.le_refl _)) hM32).mono ?_
    rintro e w1 ⟨u, rfl, hu, hb1⟩
    rw [HLB.out] at hu
    obtain ⟨ua, uc, rfl⟩ := hu.isSlice
    have t0 := (hb1.cell (cell_lt hHeld.1)).trans hHeld.1
    have t1 := (hb1.cell (cell_lt hHeld.2.1)).trans hHeld.2.1
    have t2 := (hb1.cell (cell_lt hHeld.2.2)).trans hHeld.2.2
    try dsimp only
    refine hK.out _ _ ?h15 (fun hHeld => ?_)
    case h15 => first | exact ⟨‹_›, ‹_›, ‹_›⟩ | assumption | (simp [*, go_sem])
    clear hK K
    try simp only [Act.put, List.setIfInBounds_toArray, List.set_cons_zero, List.set_cons_succ]
    refine wpAnyH_take (i := 13) (v := ?v16) (by simp only [List.getElem?_toArray, List.getElem?_cons_succ, List.getElem?_cons_zero]; exact rfl) (by kernel_rfl) (by kernel_rfl) (by kernel_rfl) (by intro _ _ _ h; exact h) (Or.inl ⟨by rfl, ?y16⟩) hHeld ?_
    case y16 => (intro w hSw; (try dsimp only at hSw); go_simp; try (with_reducible rfl))
    try simp only [Act.put, List.setIfInBounds_toArray, List.set_cons_zero, List.set_cons_succ]
    refine wpAnyH_done (by kernel_rfl) ?_ _
    skip
    have hbw : Below w.heap.size w w1 := (hdw.below _).trans (hb1.mono (hdw.below w.heap.size).size)
    have hds : wd.heap.size = w.heap.size := by rw [hdw.heap]
    have hbz := hb1.size
    have hul : (bitsN M).length ≤ 32 := by rw [← HLB.out]; exact bitsI_len M
    have hG1 := HG.out.below hbw
    have HSTART := Lib.hid (show tryL (fun v => dfsF (candN H (farF Dl) L ft) (finN H) d (p ++ [v])) (((bitsN M).drop 0).filter fun v => decide (0 ≤ farF Dl v) && decide (farF Dl v ≤ (L : Int) - p.length) && ft p v) = dfsF (candN H (farF Dl) L ft) (finN H) (d + 1) p by rw [HS.out, HCand.out]; rfl)
    have HKW := Lib.hid (Keeps.ofBelow (fun b => b = sb ∨ (Value.slice (some ⟨pb, po, none⟩) p.length pc).ownBlock = some b) hbw)
    have hpvb : (Value.slice (some ⟨pb, po, none⟩) p.length pc).ownBlock = some pb := rfl
    have hpvlt := (HG.out.own.lt pb hpvb).2
    generalize hgl : (bitsN M).length = K at *
    have HK := Lib.hid hgl
    clear t0 t1 t2 hHeld c0 c4 e3 hgl c5 han hM32 hml0 hml hpl hw1 hw2 hw3 hw4 hlq hlq2
    go_wp2
    go_loopw [56] (fun iv wr => ∃ (k : Nat) (pvk : Value), k ≤ K ∧ iv = .int .i64 k ∧ GL X 3 90 wr B sb (.slice (some ⟨ab, ao, none⟩) H.length ac) fv (.func (Fn.func N) #[] cb) L pvk p ∧ Keeps (fun b => b = sb ∨ b = pb) w1 wr ∧ (∀ b, pvk.ownBlock = some b → b = pb ∨ w1.heap.size ≤ b) ∧
      RowKit.Hid (tryL (fun v => dfsF (candN H (farF Dl) L ft) (finN H) d (p ++ [v])) (((bitsN M).drop k).filter fun v => decide (0 ≤ farF Dl v) && decide (farF Dl v ≤ (L : Int) - p.length) && ft p v) = dfsF (candN H (farF Dl) L ft) (finN H) (d + 1) p)) (fun iv _ => K - (RowKit.intOf iv).toNat)
    case atStart => exact ⟨0, _, Nat.zero_le _, rfl, hG1, Keeps.refl _ _, fun b hb => .inl (by rw [hpvb] at hb; injection hb with hb; exact hb.symm), HSTART⟩
    case round =>
      clear hG1 HSTART
      obtain ⟨k, pvk, hk, rfl, hGk, hKk, hnk, HL⟩ := hrel
      obtain ⟨wi, rfl⟩ : ∃ wx : World, wx = wr := ⟨_, rfl⟩
      have HKk := Lib.hid hKk
      by_cases hlt : k < K
      case neg =>
        obtain rfl : k = K := by omega
        have hend := HL.out
        rw [List.drop_of_length_le (by rw [HK.out]; exact Nat.le_refl _)] at hend
        have HEND := Lib.hid (show dfsF (candN H (farF Dl) L ft) (finN H) (d + 1) p = none from hend.symm)
        clear hend
        go_wp2
        go_ret
        rw [HEND.out]
        refine ⟨pvk, rfl, hGk, HKW.out.trans HKk.out (fun x hx h => ?_), fun b hb => ?_⟩
        · rcases h with h | h
          · exact .inl h
          · exact .inr (by rw [hpvb, h])
        · rcases hnk b hb with h | h
          · exact .inl (by rw [hpvb, h])
          · exact .inr (by omega)
      have hkl : k < (bitsN M).length := by rw [HK.out]; exact hlt
      obtain ⟨hvn, hvp, hvb⟩ := HMem.out _ (List.getElem_mem hkl)
      have hu0 : ∃ gb, ua = some ⟨gb, 0, none⟩ := by
        rcases hu.2 with ⟨he, hz⟩ | ⟨gb, cap, cur, he, -⟩
        · omega
        · simp only [Value.slice.injEq] at he
          exact ⟨gb, he.1⟩
      obtain ⟨gb, rfl⟩ := hu0
      have hgb := hu.lt gb rfl
      have hcu : wi.cell? ⟨gb, k, none⟩ = some (.int .i64 (((bitsN M)[k] : Nat) : Int)) := by
        rw [cell_heap (hKk.block gb hgb.2 (fun h => by rcases h with h | h <;> omega))]
        rw [World.ownsRow.cellAt hu k (by omega)]
        simp [bitsI, hkl]
      have hst : dfsF (candN H (farF Dl) L ft) (finN H) (d + 1) p = if (decide (0 ≤ farF Dl (bitsN M)[k]) && decide (farF Dl (bitsN M)[k] ≤ (L : Int) - p.length) && ft p (bitsN M)[k]) = true then (match dfsF (candN H (farF Dl) L ft) (finN H) d (p ++ [(bitsN M)[k]]) with
          | some q => some q
          | none => tryL (fun v => dfsF (candN H (farF Dl) L ft) (finN H) d (p ++ [v])) (((bitsN M).drop (k + 1)).filter fun v => decide (0 ≤ farF Dl v) && decide (farF Dl v ≤ (L : Int) - p.length) && ft p v))
          else tryL (fun v => dfsF (candN H (farF Dl) L ft) (finN H) d (p ++ [v])) (((bitsN M).drop (k + 1)).filter fun v => decide (0 ≤ farF Dl v) && decide (farF Dl v ≤ (L : Int) - p.length) && ft p v) := by
        rw [← HL.out]; exact try_step hkl
      generalize (bitsN M)[k] = v at *
      have hKw : Keeps (fun b => b = sb ∨ (Value.slice (some ⟨pb, po, none⟩) p.length pc).ownBlock = some b) w wi := HKW.out.trans hKk (fun x hx h => by
        rcases h with h | h
        · exact .inl h
        · exact .inr (by rw [hpvb, h]))
      have hXi : XK X w0 wi := hXK.keeps hKw (fun b hb => ⟨hX b hb, fun h => by
        rcases h with h | h
        · exact HG.out.nx (h ▸ hb)
        · exact (HG.out.ne b h).2 hb⟩)
      obtain ⟨-, hF, -⟩ := hR wi hXi
      obtain ⟨fb, fo, fc, hfe, hfc⟩ := hF.at_
      replace hfe := hfe (by rw [HDl.out]; omega)
      have hvD : v < Dl.length := by rw [HDl.out]; exact hvn
      have e4 : wi.cell? ⟨fb, fo + v, none⟩ = some (.int .i64 (farF Dl v)) := by
        rw [hfc v hvD, farF_get hvD]
      obtain ⟨c0, c1, c2, c3, c4, c5, hfz, hsB, hsl⟩ := row6 hGk.row
      subst hfe
      obtain ⟨qa, qc, rfl⟩ := hGk.own.isSlice
      have HST := Lib.hid hst
      have HGK := Lib.hid hGk
      have HVP := Lib.hid hvp
      have HVB := Lib.hid hvb
      have hwL : IntKind.i64.wrap ((L : Int) - (p.length : Int)) = (L : Int) - p.length := IntWalk.i64_in _ (by omega)
      generalize farF Dl v = x at *
      clear hst hF hfc hvp hvb hkl hu hGk
      by_cases hx0 : x < 0
      case pos =>
        have hxd : decide (x < 0) = true := decide_eq_true hx0
        have HS2 := Lib.hid (HST.out.trans (if_neg (by simp [show ¬ 0 ≤ x by omega])))
        clear hx0
        go_wp2
        go_quiet (fail)
        have hd : Drawn wi (wi.drewN nq) := (Drawn.refl _).drewN _
        generalize wi.drewN nq = wj at hd ⊢
        go_wp2
        go_roundw
        case rel => exact ⟨k + 1, _, by omega, by go_num, HGK.out.below (hd.below _), HKk.out.trans (Keeps.ofDrawn (fun _ => False) hd) (fun _ _ h => h.elim), hnk, Lib.hid HS2.out.symm⟩
        case measure => simp [RowKit.intOf]; omega
      have hxd : decide (x < 0) = false := decide_eq_false hx0
      have hge0 : 0 ≤ x := by omega
      by_cases hx1 : (L : Int) - p.length < x
      case pos =>
        have hxd1 : decide ((L : Int) - (p.length : Int) < x) = true := decide_eq_true hx1
        have HS2 := Lib.hid (HST.out.trans (if_neg (by simp [show ¬ x ≤ (L : Int) - p.length by omega])))
        clear hx0 hx1
        go_wp2
        go_quiet (fail)
        have hd : Drawn wi (wi.drewN nq) := (Drawn.refl _).drewN _
        generalize wi.drewN nq = wj at hd ⊢
        go_wp2
        go_roundw
        case rel => exact ⟨k + 1, _, by omega, by go_num, HGK.out.below (hd.below _), HKk.out.trans (Keeps.ofDrawn (fun _ => False) hd) (fun _ _ h => h.elim), hnk, Lib.hid HS2.out.symm⟩
        case measure => simp [RowKit.intOf]; omega
      have hxd1 : decide ((L : Int) - (p.length : Int) < x) = false := decide_eq_false hx1
      have HS2 := Lib.hid (show dfsF (candN H (farF Dl) L ft) (finN H) (d + 1) p = if ft p v = true then _ else _ from by
        have h := HST.out
        simp only [hge0, decide_true, show x ≤ (L : Int) - p.length by omega, Bool.true_and] at h
        exact h)
      clear hx0 hx1 hge0
      have hsz : w.heap.size ≤ wi.heap.size := hKw.size
      go_wp2
      refine wp_region_held_drew (S := (fun w' => w'.cell? ⟨sb, 1, none⟩ = some (.slice (some ⟨fb, fo, none⟩) Dl.length fc) ∧ w'.cell? ⟨sb, 2, none⟩ = some (.int .i64 (L : Int)) ∧ w'.cell? ⟨sb, 3, none⟩ = some (.slice qa p.length qc) ∧ w'.cell? ⟨sb, 5, none⟩ = some (.func (Fn.func N) #[] cb) ∧ w'.cell? ⟨fb, fo + v, none⟩ = some (.int .i64 x))) (by kernel_rfl) ?_ (fun hHeld => ?_)
      · first | exact ⟨‹_›, ‹_›, ‹_›, ‹_›, ‹_›⟩ | assumption | (simp [*, go_sem])
      have hdw := (Drawn.refl wi).drew
      generalize wi.drew = wd at hdw hHeld ⊢
      refine wpAnyH_take (i := 0) (v := ?v17) (by simp only [List.getElem?_toArray, List.getElem?_cons_zero]; exact rfl) (by kernel_rfl) (by kernel_rfl) (by kernel_rfl) (by intro _ _ _ h; exact h) (Or.inl ⟨by rfl, ?y17⟩) hHeld ?_
      case y17 => (intro w hSw; (try dsimp only at hSw); go_simp; try (with_reducible rfl))
      try simp only [Act.put, List.setIfInBounds_toArray, List.set_cons_zero, List.set_cons_succ]
      refine wpAnyH_take (i := 1) (v := ?v18) (by simp only [List.getElem?_toArray, List.getElem?_cons_succ, List.getElem?_cons_zero]; exact rfl) (by kernel_rfl) (by kernel_rfl) (by kernel_rfl) (by intro _ _ _ h; exact h) (Or.inl ⟨by rfl, ?y18⟩) hHeld ?_
      case y18 => (intro w hSw; (try dsimp only at hSw); go_simp; try (with_reducible rfl))
      try simp only [Act.put, List.setIfInBounds_toArray, List.set_cons_zero, List.set_cons_succ]
      refine wpAnyH_take (i := 2) (v := ?v19) (by simp only [List.getElem?_toArray, List.getElem?_cons_succ, List.getElem?_cons_zero]; exact rfl) (by kernel_rfl) (by kernel_rfl) (by kernel_rfl) (by intro _ _ _ h; exact h) (Or.inl ⟨by rfl, ?y19⟩) hHeld ?_
      case y19 => (intro w hSw; (try dsimp only at hSw); go_simp; try (with_reducible rfl))
      try simp only [Act.put, List.setIfInBounds_toArray, List.set_cons_zero, List.set_cons_succ]
      refine wpAnyH_take (i := 3) (v := ?v20) (by simp only [List.getElem?_toArray, List.getElem?_cons_succ, List.getElem?_cons_zero]; exact rfl) (by kernel_rfl) (by kernel_rfl) (by kernel_rfl) (by intro _ _ _ h; exact h) (Or.inl ⟨by rfl, ?y20⟩) hHeld ?_
      case y20 => (intro w hSw; (try dsimp only at hSw); go_simp; try (with_reducible rfl))
      try simp only [Act.put, List.setIfInBounds_toArray, List.set_cons_zero, List.set_cons_succ]
      refine wpAnyH_take (i := 4) (v := ?v21) (by simp only [List.getElem?_toArray, List.getElem?_cons_succ, List.getElem?_cons_zero]; exact rfl) (by kernel_rfl) (by kernel_rfl) (by kernel_rfl) (by intro _ _ _ h; exact h) (Or.inl ⟨by rfl, ?y21⟩) hHeld ?_
      case y21 => (intro w hSw; (try dsimp only at hSw); go_simp; try (with_reducible rfl))
      try simp only [Act.put, List.setIfInBounds_toArray, List.set_cons_zero, List.set_cons_succ]
      refine wpAnyH_take (i := 5) (v := ?v22) (by simp only [List.getElem?_toArray, List.getElem?_cons_succ, List.getElem?_cons_zero]; exact rfl) (by kernel_rfl) (by kernel_rfl) (by kernel_rfl) (by intro _ _ _ h; exact h) (Or.inl ⟨by rfl, ?y22⟩) hHeld ?_
      case y22 => (intro w hSw; (try dsimp only at hSw); go_simp; try (with_reducible rfl))
      try simp only [Act.put, List.setIfInBounds_toArray, List.set_cons_zero, List.set_cons_succ]
      refine wpAnyH_take (i := 6) (v := ?v23) (by simp only [List.getElem?_toArray, List.getElem?_cons_succ, List.getElem?_cons_zero]; exact rfl) (by kernel_rfl) (by kernel_rfl) (by kernel_rfl) (by intro _ _ _ h; exact h) (Or.inl ⟨by rfl, ?y23⟩) hHeld ?_
      case y23 => (intro w hSw; (try dsimp only at hSw); go_simp; try (with_reducible rfl))
      try simp only [Act.put, List.setIfInBounds_toArray, List.set_cons_zero, List.set_cons_succ]
      refine wpAnyH_take (i := 7) (v := ?v24) (by simp only [List.getElem?_toArray, List.getElem?_cons_succ, List.getElem?_cons_zero]; exact rfl) (by kernel_rfl) (by kernel_rfl) (by kernel_rfl) (by intro _ _ _ h; exact h) (Or.inl ⟨by rfl, ?y24⟩) hHeld ?_
      case y24 => (intro w hSw; (try dsimp only at hSw); go_simp; try (with_reducible rfl))
      try simp only [Act.put, List.setIfInBounds_toArray, List.set_cons_zero, List.set_cons_succ]
      refine wpAnyH_take (i := 8) (v := ?v25) (by simp only [List.getElem?_toArray, List.getElem?_cons_succ, List.getElem?_cons_zero]; exact rfl) (by kernel_rfl) (by kernel_rfl) (by kernel_rfl) (by intro _ _ _ h; exact h) (Or.inl ⟨by rfl, ?y25⟩) hHeld ?_
      case y25 => (intro w hSw; (try dsimp only at hSw); go_simp; try (with_reducible rfl))
      try simp only [Act.put, List.setIfInBounds_toArray, List.set_cons_zero, List.set_cons_succ]
      refine wpAnyH_take (i := 9) (v := ?v26) (by simp only [List.getElem?_toArray, List.getElem?_cons_succ, List.getElem?_cons_zero]; exact rfl) (by kernel_rfl) (by kernel_rfl) (by kernel_rfl) (by intro _ _ _ h; exact h) (Or.inl ⟨by rfl, ?y26⟩) hHeld ?_
      case y26 => (intro w hSw; (try dsimp only at hSw); go_simp; try (with_reducible rfl))
      try simp only [Act.put, List.setIfInBounds_toArray, List.set_cons_zero, List.set_cons_succ]
      refine wpAnyH_take (i := 10) (v := ?v27) (by simp only [List.getElem?_toArray, List.getElem?_cons_succ, List.getElem?_cons_zero]; exact rfl) (by kernel_rfl) (by kernel_rfl) (by kernel_rfl) (by intro _ _ _ h; exact h) (Or.inl ⟨by rfl, ?y27⟩) hHeld ?_
      case y27 => (intro w hSw; (try dsimp only at hSw); go_simp; try (with_reducible rfl))
      try simp only [Act.put, List.setIfInBounds_toArray, List.set_cons_zero, List.set_cons_succ]
      refine wpAnyH_take (i := 11) (v := ?v28) (by simp only [List.getElem?_toArray, List.getElem?_cons_succ, List.getElem?_cons_zero]; exact rfl) (by kernel_rfl) (by kernel_rfl) (by kernel_rfl) (by intro _ _ _ h; exact h) (Or.inl ⟨by rfl, ?y28⟩) hHeld ?_
      case y28 => (intro w hSw; (try dsimp only at hSw); go_simp; try (with_reducible rfl))
      try simp only [Act.put, List.setIfInBounds_toArray, List.set_cons_zero, List.set_cons_succ]
      refine wpAnyH_take (i := 12) (v := ?v29) (by simp only [List.getElem?_toArray, List.getElem?_cons_succ, List.getElem?_cons_zero]; exact rfl) (by kernel_rfl) (by kernel_rfl) (by kernel_rfl) (by intro _ _ _ h; exact h) (Or.inl ⟨by rfl, ?y29⟩) hHeld ?_
      case y29 => (intro w hSw; (try dsimp only at hSw); go_simp; try (with_reducible rfl))
      try simp only [Act.put, List.setIfInBounds_toArray, List.set_cons_zero, List.set_cons_succ]
      refine wpAnyH_take (i := 13) (v := ?v30) (by simp only [List.getElem?_toArray, List.getElem?_cons_succ, List.getElem?_cons_zero]; exact rfl) (by kernel_rfl) (by kernel_rfl) (by kernel_rfl) (by intro _ _ _ h; exact h) (Or.inl ⟨by rfl, ?y30⟩) hHeld ?_
      case y30 => (intro w hSw; (try dsimp only at hSw); go_simp; try (with_reducible rfl))
      try simp only [Act.put, List.setIfInBounds_toArray, List.set_cons_zero, List.set_cons_succ]
      refine wpAnyH_take (i := 14) (v := ?v31) (by simp only [List.getElem?_toArray, List.getElem?_cons_succ, List.getElem?_cons_zero]; exact rfl) (by kernel_rfl) (by kernel_rfl) (by kernel_rfl) (by intro _ _ _ h; exact h) (Or.inl ⟨by rfl, ?y31⟩) hHeld ?_
      case y31 => (intro w hSw; (try dsimp only at hSw); go_simp; try (with_reducible rfl))
      try simp only [Act.put, List.setIfInBounds_toArray, List.set_cons_zero, List.set_cons_succ]
      refine wpAnyH_take (i := 15) (v := ?v32) (by simp only [List.getElem?_toArray, List.getElem?_cons_succ, List.getElem?_cons_zero]; exact rfl) (by kernel_rfl) (by kernel_rfl) (by kernel_rfl) (by intro _ _ _ h; exact h) (Or.inl ⟨by rfl, ?y32⟩) hHeld ?_
      case y32 => (intro w hSw; (try dsimp only at hSw); go_simp; try (with_reducible rfl))
      try simp only [Act.put, List.setIfInBounds_toArray, List.set_cons_zero, List.set_cons_succ]
      refine wpAnyH_take (i := 16) (v := ?v33) (by simp only [List.getElem?_toArray, List.getElem?_cons_succ, List.getElem?_cons_zero]; exact rfl) (by kernel_rfl) (by kernel_rfl) (by kernel_rfl) (by intro _ _ _ h; exact h) (Or.inl ⟨by rfl, ?y33⟩) hHeld ?_
      case y33 => (intro w hSw; (try dsimp only at hSw); go_simp; try (with_reducible rfl))
      try simp only [Act.put, List.setIfInBounds_toArray, List.set_cons_zero, List.set_cons_succ]
      refine wpAnyH_take (i := 17) (v := ?v34) (by simp only [List.getElem?_toArray, List.getElem?_cons_succ, List.getElem?_cons_zero]; exact rfl) (by kernel_rfl) (by kernel_rfl) (by kernel_rfl) (by intro _ _ _ h; exact h) (Or.inl ⟨by rfl, ?y34⟩) hHeld ?_
      case y34 => (intro w hSw; (try dsimp only at hSw); go_simp; try (with_reducible rfl))
      try simp only [Act.put, List.setIfInBounds_toArray, List.set_cons_zero, List.set_cons_succ]
      refine wpAnyH_take (i := 18) (v := ?v35) (by simp only [List.getElem?_toArray, List.getElem?_cons_succ, List.getElem?_cons_zero]; exact rfl) (by kernel_rfl) (by kernel_rfl) (by kernel_rfl) (by intro _ _ _ h; exact h) (Or.inl ⟨by rfl, ?y35⟩) hHeld ?_
      case y35 => (intro w hSw; (try dsimp only at hSw); go_simp; try (with_reducible rfl))
      try simp only [Act.put, List.setIfInBounds_toArray, List.set_cons_zero, List.set_cons_succ]
      refine wpAnyH_take (i := 19) (v := ?v36) (by simp only [List.getElem?_toArray, List.getElem?_cons_succ, List.getElem?_cons_zero]; exact rfl) (by kernel_rfl) (by kernel_rfl) (by kernel_rfl) (by intro _ _ _ h; exact h) (Or.inl ⟨by rfl, ?y36⟩) hHeld ?_
      case y36 => (intro w hSw; (try dsimp only at hSw); go_simp; try (with_reducible rfl))
      try simp only [Act.put, List.setIfInBounds_toArray, List.set_cons_zero, List.set_cons_succ]
      refine wpAnyH_take (i := 20) (v := ?v37) (by simp only [List.getElem?_toArray, List.getElem?_cons_succ, List.getElem?_cons_zero]; exact rfl) (by kernel_rfl) (by kernel_rfl) (by kernel_rfl) (by intro _ _ _ h; exact h) (Or.inl ⟨by rfl, ?y37⟩) hHeld ?_
      case y37 => (intro w hSw; (try dsimp only at hSw); go_simp; try (with_reducible rfl))
      try simp only [Act.put, List.setIfInBounds_toArray, List.set_cons_zero, List.set_cons_succ]
      refine wpAnyH_take (i := 21) (v := ?v38) (by simp only [List.getElem?_toArray, List.getElem?_cons_succ, List.getElem?_cons_zero]; exact rfl) (by kernel_rfl) (by kernel_rfl) (by kernel_rfl) (by intro _ _ _ h; exact h) (Or.inl ⟨by rfl, ?y38⟩) hHeld ?_
      case y38 => (intro w hSw; (try dsimp only at hSw); go_simp; try (with_reducible rfl))
      try simp only [Act.put, List.setIfInBounds_toArray, List.set_cons_zero, List.set_cons_succ]
      refine wpAnyH_take (i := 22) (v := ?v39) (by simp only [List.getElem?_toArray, List.getElem?_cons_succ, List.getElem?_cons_zero]; exact rfl) (by kernel_rfl) (by kernel_rfl) (by kernel_rfl) (by intro _ _ _ h; exact h) (Or.inl ⟨by rfl, ?y39⟩) hHeld ?_
      case y39 => (intro w hSw; (try dsimp only at hSw); go_simp; try (with_reducible rfl))
      try simp only [Act.put, List.setIfInBounds_toArray, List.set_cons_zero, List.set_cons_succ]
      refine wpAnyH_take (i := 23) (v := ?v40) (by simp only [List.getElem?_toArray, List.getElem?_cons_succ, List.getElem?_cons_zero]; exact rfl) (by kernel_rfl) (by kernel_rfl) (by kernel_rfl) (by intro _ _ _ h; exact h) (Or.inl ⟨by rfl, ?y40⟩) hHeld ?_
      case y40 => (intro w hSw; (try dsimp only at hSw); go_simp; try (with_reducible rfl))
      try simp only [Act.put, List.setIfInBounds_toArray, List.set_cons_zero, List.set_cons_succ]
      refine wpAnyH_take (i := 24) (v := ?v41) (by simp only [List.getElem?_toArray, List.getElem?_cons_succ, List.getElem?_cons_zero]; exact rfl) (by kernel_rfl) (by kernel_rfl) (by kernel_rfl) (by intro _ _ _ h; exact h) (Or.inl ⟨by rfl, ?y41⟩) hHeld ?_
      case y41 => (intro w hSw; (try dsimp only at hSw); go_simp; try (with_reducible rfl))
      try simp only [Act.put, List.setIfInBounds_toArray, List.set_cons_zero, List.set_cons_succ]
      refine wpAnyH_take (i := 25) (v := ?v42) (by simp only [List.getElem?_toArray, List.getElem?_cons_succ, List.getElem?_cons_zero]; exact rfl) (by kernel_rfl) (by kernel_rfl) (by kernel_rfl) (by intro _ _ _ h; exact h) (Or.inl ⟨by rfl, ?y42⟩) hHeld ?_
      case y42 => (intro w hSw; (try dsimp only at hSw); go_simp; try (with_reducible rfl))
      try simp only [Act.put, List.setIfInBounds_toArray, List.set_cons_zero, List.set_cons_succ]
      refine wpAnyH_take (i := 26) (v := ?v43) (by simp only [List.getElem?_toArray, List.getElem?_cons_succ, List.getElem?_cons_zero]; exact rfl) (by kernel_rfl) (by kernel_rfl) (by kernel_rfl) (by intro _ _ _ h; exact h) (Or.inl ⟨by rfl, ?y43⟩) hHeld ?_
      case y43 => (intro w hSw; (try dsimp only at hSw); go_simp; try (with_reducible rfl))
      try simp only [Act.put, List.setIfInBounds_toArray, List.set_cons_zero, List.set_cons_succ]
      refine wpAnyH_take (i := 27) (v := ?v44) (by simp only [List.getElem?_toArray, List.getElem?_cons_succ, List.getElem?_cons_zero]; exact rfl) (by kernel_rfl) (by kernel_rfl) (by kernel_rfl) (by intro _ _ _ h; exact h) (Or.inl ⟨by rfl, ?y44⟩) hHeld ?_
      case y44 => (intro w hSw; (try dsimp only at hSw); go_simp; try (with_reducible rfl))
      try simp only [Act.put, List.setIfInBounds_toArray, List.set_cons_zero, List.set_cons_succ]
      refine wpAnyH_take (i := 28) (v := ?v45) (by simp only [List.getElem?_toArray, List.getElem?_cons_succ, List.getElem?_cons_zero]; exact rfl) (by kernel_rfl) (by kernel_rfl) (by kernel_rfl) (by intro _ _ _ h; exact h) (Or.inl ⟨by rfl, ?y45⟩) hHeld ?_
      case y45 => (intro w hSw; (try dsimp only at hSw); go_simp; try (with_reducible rfl))
      try simp only [Act.put, List.setIfInBounds_toArray, List.set_cons_zero, List.set_cons_succ]
      refine wpAnyH_take (i := 29) (v := ?v46) (by simp only [List.getElem?_toArray, List.getElem?_cons_succ, List.getElem?_cons_zero]; exact rfl) (by kernel_rfl) (by kernel_rfl) (by kernel_rfl) (by intro _ _ _ h; exact h) (Or.inl ⟨by rfl, ?y46⟩) hHeld ?_
      case y46 => (intro w hSw; (try dsimp only at hSw); go_simp; try (with_reducible rfl))
      try simp only [Act.put, List.setIfInBounds_toArray, List.set_cons_zero, List.set_cons_succ]
      refine wpAnyH_take (i := 30) (v := ?v47) (by simp only [List.getElem?_toArray, List.getElem?_cons_succ, List.getElem?_cons_zero]; exact rfl) (by kernel_rfl) (by kernel_rfl) (by kernel_rfl) (by intro _ _ _ h; exact h) (Or.inl ⟨by rfl, ?y47⟩) hHeld ?_
      case y47 => (intro w hSw; (try dsimp only at hSw); go_simp; try (with_reducible rfl))
      try simp only [Act.put, List.setIfInBounds_toArray, List.set_cons_zero, List.set_cons_succ]
      refine wpAnyH_take (i := 31) (v := ?v48) (by simp only [List.getElem?_toArray, List.getElem?_cons_succ, List.getElem?_cons_zero]; exact rfl) (by kernel_rfl) (by kernel_rfl) (by kernel_rfl) (by intro _ _ _ h; exact h) (Or.inl ⟨by rfl, ?y48⟩) hHeld ?_
      case y48 => (intro w hSw; (try dsimp only at hSw); go_simp; try (with_reducible rfl))
      try simp only [Act.put, List.setIfInBounds_toArray, List.set_cons_zero, List.set_cons_succ]
      refine wpAnyH_take (i := 32) (v := ?v49) (by simp only [List.getElem?_toArray, List.getElem?_cons_succ, List.getElem?_cons_zero]; exact rfl) (by kernel_rfl) (by kernel_rfl) (by kernel_rfl) (by intro _ _ _ h; exact h) (Or.inl ⟨by rfl, ?y49⟩) hHeld ?_
      case y49 => (intro w hSw; (try dsimp only at hSw); go_simp; try (with_reducible rfl))
      try simp only [Act.put, List.setIfInBounds_toArray, List.set_cons_zero, List.set_cons_succ]
      refine wpAnyH_take (i := 33) (v := ?v50) (by simp only [List.getElem?_toArray, List.getElem?_cons_succ, List.getElem?_cons_zero]; exact rfl) (by kernel_rfl) (by kernel_rfl) (by kernel_rfl) (by intro _ _ _ h; exact h) (Or.inl ⟨by rfl, ?y50⟩) hHeld ?_
      case y50 => (intro w hSw; (try dsimp only at hSw); go_simp; try (with_reducible rfl))
      try simp only [Act.put, List.setIfInBounds_toArray, List.set_cons_zero, List.set_cons_succ]
      refine wpAnyH_take (i := 34) (v := ?v51) (by simp only [List.getElem?_toArray, List.getElem?_cons_succ, List.getElem?_cons_zero]; exact rfl) (by kernel_rfl) (by kernel_rfl) (by kernel_rfl) (by intro _ _ _ h; exact h) (Or.inl ⟨by rfl, ?y51⟩) hHeld ?_
      case y51 => (intro w hSw; (try dsimp only at hSw); go_simp; try (with_reducible rfl))
      try simp only [Act.put, List.setIfInBounds_toArray, List.set_cons_zero, List.set_cons_succ]
      refine wpAnyH_take (i := 35) (v := ?v52) (by simp only [List.getElem?_toArray, List.getElem?_cons_succ, List.getElem?_cons_zero]; exact rfl) (by kernel_rfl) (by kernel_rfl) (by kernel_rfl) (by intro _ _ _ h; exact h) (Or.inl ⟨by rfl, ?y52⟩) hHeld ?_
      case y52 => (intro w hSw; (try dsimp only at hSw); go_simp; try (with_reducible rfl))
      try simp only [Act.put, List.setIfInBounds_toArray, List.set_cons_zero, List.set_cons_succ]
      refine wpAnyH_take (i := 36) (v := ?v53) (by simp only [List.getElem?_toArray, List.getElem?_cons_succ, List.getElem?_cons_zero]; exact rfl) (by kernel_rfl) (by kernel_rfl) (by kernel_rfl) (by intro _ _ _ h; exact h) (Or.inl ⟨by rfl, ?y53⟩) hHeld ?_
      case y53 => (intro w hSw; (try dsimp only at hSw); go_simp; try (with_reducible rfl))
      try simp only [Act.put, List.setIfInBounds_toArray, List.set_cons_zero, List.set_cons_succ]
      refine wpAnyH_take (i := 37) (v := ?v54) (by simp only [List.getElem?_toArray, List.getElem?_cons_succ, List.getElem?_cons_zero]; exact rfl) (by kernel_rfl) (by kernel_rfl) (by kernel_rfl) (by intro _ _ _ h; exact h) (Or.inl ⟨by rfl, ?y54⟩) hHeld ?_
      case y54 => (intro w hSw; (try dsimp only at hSw); go_simp; try (with_reducible rfl))
      try simp only [Act.put, List.setIfInBounds_toArray, List.set_cons_zero, List.set_cons_succ]
      refine wpAnyH_ready (rs := [38]) (by kernel_rfl) (by simp) ?_
      refine AllReadyH.cons (by simp only [List.getElem?_toArray, List.getElem?_cons_succ, List.getElem?_cons_zero]; exact rfl) (fun K hK => ?_) AllReadyH.nil
      go_simp
      try rw [ent, Oper.upon_enter]
      refine (hfit p v _ wd (hXi.keeps (Keeps.ofDrawn (fun _ => False) hdw) (fun b hb => ⟨hX b hb, fun h => h⟩)) HP.out hvn hplt (((HGK.out.own.ints (by omega)).weak (fun _ _ => trivial)).drawn hdw)).mono ?_
      rintro e w2 ⟨rfl, hb2⟩
      have t0 := (hb2.cell (cell_lt hHeld.1)).trans hHeld.1
      have t1 := (hb2.cell (cell_lt hHeld.2.1)).trans hHeld.2.1
      have t2 := (hb2.cell (cell_lt hHeld.2.2.1)).trans hHeld.2.2.1
      have t3 := (hb2.cell (cell_lt hHeld.2.2.2.1)).trans hHeld.2.2.2.1
      have t4 := (hb2.cell (cell_lt hHeld.2.2.2.2)).trans hHeld.2.2.2.2
      try dsimp only
      refine hK.out _ _ ?h56 (fun hHeld => ?_)
      case h56 => first | exact ⟨‹_›, ‹_›, ‹_›, ‹_›, ‹_›⟩ | assumption | (simp [*, go_sem])
      clear hK K
      try simp only [Act.put, List.setIfInBounds_toArray, List.set_cons_zero, List.set_cons_succ]
      refine wpAnyH_take (i := 39) (v := ?v57) (by simp only [List.getElem?_toArray, List.getElem?_cons_succ, List.getElem?_cons_zero]; exact rfl) (by kernel_rfl) (by kernel_rfl) (by kernel_rfl) (by intro _ _ _ h; exact h) (Or.inl ⟨by rfl, ?y57⟩) hHeld ?_
      case y57 => (intro w hSw; (try dsimp only at hSw); go_simp; try (with_reducible rfl))
      try simp only [Act.put, List.setIfInBounds_toArray, List.set_cons_zero, List.set_cons_succ]
      refine wpAnyH_take (i := 40) (v := ?v58) (by simp only [List.getElem?_toArray, List.getElem?_cons_succ, List.getElem?_cons_zero]; exact rfl) (by kernel_rfl) (by kernel_rfl) (by kernel_rfl) (by intro _ _ _ h; exact h) (Or.inl ⟨by rfl, ?y58⟩) hHeld ?_
      case y58 => (intro w hSw; (try dsimp only at hSw); go_simp; try (with_reducible rfl))
      try simp only [Act.put, List.setIfInBounds_toArray, List.set_cons_zero, List.set_cons_succ]
      refine wpAnyH_done (by kernel_rfl) ?_ _
      skip
      have hbd : Below wi.heap.size wi w2 := (hdw.below _).trans (hb2.mono (hdw.below wi.heap.size).size)
      have hG2 := HGK.out.below hbd
      have hK2 : Keeps (fun b => b = sb ∨ b = pb) w1 w2 := HKk.out.trans (Keeps.ofBelow (fun _ => False) hbd) (fun _ _ h => h.elim)
      have hX2 : XK X w0 w2 := hXi.keeps (Keeps.ofBelow (fun _ => False) hbd) (fun b hb => ⟨hX b hb, fun h => h⟩)
      have hKw2 := hKw.trans (Keeps.ofBelow (fun _ => False) hbd) (fun _ _ h => h.elim)
      have hsz2 : wi.heap.size ≤ w2.heap.size := hbd.size
      generalize hbb : ft p v = bb at *
      clear hbb hfit hR hgb hHeld e4 hxd hxd1 hwL c0 c1 c2 c3 c4 c5 hfz hXi t0 t1 t2 t3 t4 hcu hb2 hdw hbd
      cases bb with
      | false =>
        simp only [Bool.false_eq_true, if_false] at HS2
        go_wp2
        go_roundw
        case rel => exact ⟨k + 1, _, by omega, by go_num, hG2, hK2, hnk, Lib.hid HS2.out.symm⟩
        case measure => simp [RowKit.intOf]; omega
      | true =>
        simp only [if_true] at HS2
        have hlen2 : (p ++ [v]).length = p.length + 1 := by simp
        have HLEN := Lib.hid hlen2
        clear hlen2
        obtain ⟨c0, c1, c2, c3, c4, c5, hfz, hsB2, hsl2⟩ := row6 hG2.row
        have hown := hG2.own
        have hrow := hG2.row
        have hpl2 : maskN p < 4294967296 := by
          have := maskN_lt (p := p) (n := 32) (fun a ha => by have := HP.out.lt a ha; omega); simpa using this
        have hor := u32_or_nat (maskN p) (bit v) hpl2 (bit_lt (by omega))
        rw [← maskN_snoc] at hor
        have hB2 : B ≤ w2.heap.size := by omega
        have hw12 : w1.heap.size ≤ w2.heap.size := hK2.size
        clear c0 c1 c2 c5 hpl2
        go_wp2
        refine wp_region_late (S := (fun w' => w'.cell? ⟨sb, 3, none⟩ = some (.slice qa p.length qc) ∧ w'.cell? ⟨sb, 4, none⟩ = some (.int .u32 (maskN p : Int)))) (late := [18, 21]) (by kernel_rfl) ?_ (fun hHeld => ?_)
        · first | exact ⟨‹_›, ‹_›⟩ | (simp [*, go_sem])
        have hdw : Drawn w2 w2.drew := (Drawn.refl _).drew
        generalize w2.drew = wd at hdw hHeld ⊢
        have ownd := hown.drawn hdw
        have rowd := hrow.drawn hdw
        obtain ⟨-, -, -, d2, d3, -, -, -, hsl3⟩ := row6 rowd
        have hBd : B ≤ wd.heap.size := by rw [hdw.heap]; exact hB2
        refine wpLate_take (i := 0) (v := ?v59) (by simp only [List.getElem?_toArray, List.getElem?_cons_zero]; exact rfl) (by kernel_rfl) (by kernel_rfl) (by kernel_rfl) (by intro _ _ _ h; exact h) (Or.inl ⟨by rfl, ?y59⟩) ?_
        case y59 => (intro w _; go_simp; try (with_reducible rfl))
        try simp only [Act.put, List.setIfInBounds_toArray, List.set_cons_zero, List.set_cons_succ]
        refine wpLate_take (i := 1) (v := ?v60) (by simp only [List.getElem?_toArray, List.getElem?_cons_succ, List.getElem?_cons_zero]; exact rfl) (by kernel_rfl) (by kernel_rfl) (by kernel_rfl) (by intro _ _ _ h; exact h) (Or.inl ⟨by rfl, ?y60⟩) ?_
        case y60 => (intro w _; go_simp; try (with_reducible rfl))
        try simp only [Act.put, List.setIfInBounds_toArray, List.set_cons_zero, List.set_cons_succ]
        refine wpLate_take (i := 2) (v := ?v61) (by simp only [List.getElem?_toArray, List.getElem?_cons_succ, List.getElem?_cons_zero]; exact rfl) (by kernel_rfl) (by kernel_rfl) (by kernel_rfl) (by intro _ _ _ h; exact h) (Or.inl ⟨by rfl, ?y61⟩) ?_
        case y61 => (intro w _; go_simp; try (with_reducible rfl))
        try simp only [Act.put, List.setIfInBounds_toArray, List.set_cons_zero, List.set_cons_succ]
        refine wpLate_take (i := 3) (v := ?v62) (by simp only [List.getElem?_toArray, List.getElem?_cons_succ, List.getElem?_cons_zero]; exact rfl) (by kernel_rfl) (by kernel_rfl) (by kernel_rfl) (by intro _ _ _ h; exact h) (Or.inl ⟨by rfl, ?y62⟩) ?_
        case y62 => (intro w _; go_simp; try (with_reducible rfl))
        try simp only [Act.put, List.setIfInBounds_toArray, List.set_cons_zero, List.set_cons_succ]
        refine wpLate_take (i := 4) (v := ?v63) (by simp only [List.getElem?_toArray, List.getElem?_cons_succ, List.getElem?_cons_zero]; exact rfl) (by kernel_rfl) (by kernel_rfl) (by kernel_rfl) (by intro _ _ _ h; exact h) (Or.inl ⟨by rfl, ?y63⟩) ?_
        case y63 => (intro w _; go_simp; try (with_reducible rfl))
        try simp only [Act.put, List.setIfInBounds_toArray, List.set_cons_zero, List.set_cons_succ]
        refine wpLate_load (i := 5) (v := ?v64) (by simp only [List.getElem?_toArray, List.getElem?_cons_succ, List.getElem?_cons_zero]; exact rfl) (by kernel_rfl) (by kernel_rfl) (by kernel_rfl) (by kernel_rfl) (by intro _ _ _ h; exact h) (Or.inl ⟨by rfl, ?y64⟩) hHeld ?_
        case y64 => (intro w hSw; (try dsimp only at hSw); go_simp; try (with_reducible rfl))
        try simp only [Act.put, List.setIfInBounds_toArray, List.set_cons_zero, List.set_cons_succ]
        refine wpLate_take (i := 6) (v := ?v65) (by simp only [List.getElem?_toArray, List.getElem?_cons_succ, List.getElem?_cons_zero]; exact rfl) (by kernel_rfl) (by kernel_rfl) (by kernel_rfl) (by intro _ _ _ h; exact h) (Or.inl ⟨by rfl, ?y65⟩) ?_
        case y65 => (intro w _; go_simp; try (with_reducible rfl))
        try simp only [Act.put, List.setIfInBounds_toArray, List.set_cons_zero, List.set_cons_succ]
        refine wpLate_take (i := 9) (v := ?v66) (by simp only [List.getElem?_toArray, List.getElem?_cons_succ, List.getElem?_cons_zero]; exact rfl) (by kernel_rfl) (by kernel_rfl) (by kernel_rfl) (by intro _ _ _ h; exact h) (Or.inl ⟨by rfl, ?y66⟩) ?_
        case y66 => (intro w _; go_simp; try (with_reducible rfl))
        try simp only [Act.put, List.setIfInBounds_toArray, List.set_cons_zero, List.set_cons_succ]
        refine wpLate_take (i := 10) (v := ?v67) (by simp only [List.getElem?_toArray, List.getElem?_cons_succ, List.getElem?_cons_zero]; exact rfl) (by kernel_rfl) (by kernel_rfl) (by kernel_rfl) (by intro _ _ _ h; exact h) (Or.inl ⟨by rfl, ?y67⟩) ?_
        case y67 => (intro w _; go_simp; try (with_reducible rfl))
        try simp only [Act.put, List.setIfInBounds_toArray, List.set_cons_zero, List.set_cons_succ]
        refine wpLate_take (i := 11) (v := ?v68) (by simp only [List.getElem?_toArray, List.getElem?_cons_succ, List.getElem?_cons_zero]; exact rfl) (by kernel_rfl) (by kernel_rfl) (by kernel_rfl) (by intro _ _ _ h; exact h) (Or.inl ⟨by rfl, ?y68⟩) ?_
        case y68 => (intro w _; go_simp; try (with_reducible rfl))
        try simp only [Act.put, List.setIfInBounds_toArray, List.set_cons_zero, List.set_cons_succ]
        refine wpLate_load (i := 12) (v := ?v69) (by simp only [List.getElem?_toArray, List.getElem?_cons_succ, List.getElem?_cons_zero]; exact rfl) (by kernel_rfl) (by kernel_rfl) (by kernel_rfl) (by kernel_rfl) (by intro _ _ _ h; exact h) (Or.inl ⟨by rfl, ?y69⟩) hHeld ?_
        case y69 => (intro w hSw; (try dsimp only at hSw); go_simp; try (with_reducible rfl))
        try simp only [Act.put, List.setIfInBounds_toArray, List.set_cons_zero, List.set_cons_succ]
        refine wpLate_take (i := 13) (v := ?v70) (by simp only [List.getElem?_toArray, List.getElem?_cons_succ, List.getElem?_cons_zero]; exact rfl) (by kernel_rfl) (by kernel_rfl) (by kernel_rfl) (by intro _ _ _ h; exact h) (Or.inl ⟨by rfl, ?y70⟩) ?_
        case y70 => (intro w _; go_simp; try (with_reducible rfl))
        try simp only [Act.put, List.setIfInBounds_toArray, List.set_cons_zero, List.set_cons_succ]
        refine wpLate_one (i := 7) (by kernel_rfl) (by simp only [List.getElem?_toArray, List.getElem?_cons_succ, List.getElem?_cons_zero]; exact rfl) (by kernel_rfl) (fun K hK => ?_)
        go_simp
        have d2 := (World.cell?_alloc_some wd ⟨sb, 3, none⟩ (.cells #[.int .i64 (v : Int)] 3) (by rw [d2]; rfl)).trans d2
        have d3 := (World.cell?_alloc_some wd ⟨sb, 4, none⟩ (.cells #[.int .i64 (v : Int)] 3) (by rw [d3]; rfl)).trans d3
        try dsimp only
        refine hK.out _ _ ?h71 (fun hHeld => ?_)
        case h71 => first | exact ⟨‹_›, ‹_›⟩ | (simp [*, go_sem])
        clear hK K
        try simp only [Act.put, List.setIfInBounds_toArray, List.set_cons_zero, List.set_cons_succ]
        refine wpLate_one (i := 8) (by kernel_rfl) (by simp only [List.getElem?_toArray, List.getElem?_cons_succ, List.getElem?_cons_zero]; exact rfl) (by kernel_rfl) (fun K hK => ?_)
        rw [if_pos (by rfl)]
        refine opWp_append1 elInt _ _ rfl ownd rfl rfl rfl rfl (by omega) hBd ?_
        intro v' w3 hown3 hkept hmv
        obtain ⟨na, nc, rfl⟩ := hown3.isSlice
        have row3 := Own.kept rowd hkept (fun b hb he => (hG2.ne b he).1 (by simpa [Value.ownBlock, eq_comm] using hb))
        obtain ⟨-, -, -, d2, d3, -, hfz2, -, -⟩ := row6 row3
        have hfa := hfz2 3
        have hfb := hfz2 4
        try dsimp only
        refine hK.out _ _ ?h72 (fun hHeld => ?_)
        case h72 => first | exact ⟨‹_›, ‹_›⟩ | (simp [*, go_sem])
        clear hK K
        try simp only [Act.put, List.setIfInBounds_toArray, List.set_cons_zero, List.set_cons_succ]
        refine wpLate_one (i := 14) (by kernel_rfl) (by simp only [List.getElem?_toArray, List.getElem?_cons_succ, List.getElem?_cons_zero]; exact rfl) (by kernel_rfl) (fun K hK => ?_)
        go_simp
        refine (one_any _ _ (by omega) (by omega)).mono ?_
        rintro e w' ⟨rfl, rfl⟩
        try dsimp only
        refine hK.out _ _ ?h73 (fun hHeld => ?_)
        case h73 => first | exact ⟨‹_›, ‹_›⟩ | (simp [*, go_sem])
        clear hK K
        try simp only [Act.put, List.setIfInBounds_toArray, List.set_cons_zero, List.set_cons_succ]
        refine wpLate_take (i := 15) (v := ?v74) (by simp only [List.getElem?_toArray, List.getElem?_cons_succ, List.getElem?_cons_zero]; exact rfl) (by kernel_rfl) (by kernel_rfl) (by kernel_rfl) (by intro _ _ _ h; exact h) (Or.inl ⟨by rfl, ?y74⟩) ?_
        case y74 => (intro w _; go_simp; try (with_reducible rfl))
        try simp only [Act.put, List.setIfInBounds_toArray, List.set_cons_zero, List.set_cons_succ]
        refine wpLate_take (i := 16) (v := ?v75) (by simp only [List.getElem?_toArray, List.getElem?_cons_succ, List.getElem?_cons_zero]; exact rfl) (by kernel_rfl) (by kernel_rfl) (by kernel_rfl) (by intro _ _ _ h; exact h) (Or.inl ⟨by rfl, ?y75⟩) ?_
        case y75 => (intro w _; go_simp; try (with_reducible rfl))
        try simp only [Act.put, List.setIfInBounds_toArray, List.set_cons_zero, List.set_cons_succ]
        refine wpLate_take (i := 17) (v := ?v76) (by simp only [List.getElem?_toArray, List.getElem?_cons_succ, List.getElem?_cons_zero]; exact rfl) (by kernel_rfl) (by kernel_rfl) (by kernel_rfl) (by intro _ _ _ h; exact h) (Or.inl ⟨by rfl, ?y76⟩) ?_
        case y76 => (intro w _; go_simp; try (with_reducible rfl))
        try simp only [Act.put, List.setIfInBounds_toArray, List.set_cons_zero, List.set_cons_succ]
        refine wpLate_late (i := 18) (by kernel_rfl) (by simp only [List.getElem?_toArray, List.getElem?_cons_succ, List.getElem?_cons_zero]; exact rfl) (by kernel_rfl) (fun K hK => ?_)
        go_simp
        skip
        try dsimp only
        refine hK.out _ _ ?_
        clear hK K
        try simp only [Act.put, List.setIfInBounds_toArray, List.set_cons_zero, List.set_cons_succ]
        refine wpLate_take (i := 19) (v := ?v78) (by simp only [List.getElem?_toArray, List.getElem?_cons_succ, List.getElem?_cons_zero]; exact rfl) (by kernel_rfl) (by kernel_rfl) (by kernel_rfl) (by intro _ _ _ h; exact h) (Or.inl ⟨by rfl, ?y78⟩) ?_
        case y78 => (intro w _; go_simp; try (with_reducible rfl))
        try simp only [Act.put, List.setIfInBounds_toArray, List.set_cons_zero, List.set_cons_succ]
        refine wpLate_take (i := 20) (v := ?v79) (by simp only [List.getElem?_toArray, List.getElem?_cons_succ, List.getElem?_cons_zero]; exact rfl) (by kernel_rfl) (by kernel_rfl) (by kernel_rfl) (by intro _ _ _ h; exact h) (Or.inl ⟨by rfl, ?y79⟩) ?_
        case y79 => (intro w _; go_simp; try (with_reducible rfl))
        try simp only [Act.put, List.setIfInBounds_toArray, List.set_cons_zero, List.set_cons_succ]
        refine wpLate_late (i := 21) (by kernel_rfl) (by simp only [List.getElem?_toArray, List.getElem?_cons_succ, List.getElem?_cons_zero]; exact rfl) (by kernel_rfl) (fun K hK => ?_)
        go_simp
        skip
        try dsimp only
        refine hK.out _ _ ?_
        clear hK K
        try simp only [Act.put, List.setIfInBounds_toArray, List.set_cons_zero, List.set_cons_succ]
        refine wpLate_done (by kernel_rfl) ?_ _
        have hk3 : KeptBut w2 w3 (Value.slice qa p.length qc).ownBlock := hkept.drawn hdw
        have hde : wd.heap.size = w2.heap.size := by rw [hdw.heap]
        have hown4 : Own w3 B 3 1 (.slice na (p.length + 1) nc) (p ++ [v]).length ((natsI (p ++ [v])).map (.int .i64)) := by
          rw [HLEN.out, natsI_append]; simpa [natsI] using hown3
        have hnew : ∀ b, (Value.slice na (p.length + 1) nc).ownBlock = some b → (Value.slice qa p.length qc).ownBlock = some b ∨ w2.heap.size ≤ b := fun b hb => by
          rcases hmv with h | h
          · exact .inl (by rw [← h]; exact hb)
          · rw [h] at hb
            have : b = wd.heap.size + 1 := by simpa using hb.symm
            exact .inr (by omega)
        have hne4 : ∀ b, (Value.slice na (p.length + 1) nc).ownBlock = some b → b ≠ sb ∧ ¬ X b := fun b hb => by
          rcases hnew b hb with h | h
          · exact hG2.ne b h
          · exact ⟨by omega, fun hx => by have := hX b hx; have := hX2.1; omega⟩
        have hG4 := GL.store (X := X) row3 hown4 hne4 HG.out.nx
        have hKs : Keeps (fun b => b = sb ∨ (Value.slice qa p.length qc).ownBlock = some b) w2 ((w3.setCell ⟨sb, 3, none⟩ (.slice na (p.length + 1) nc)).setCell ⟨sb, 4, none⟩ (.int .u32 (maskN (p ++ [v]) : Int))) :=
          (Keeps.ofKept (F := fun b => b = sb ∨ (Value.slice qa p.length qc).ownBlock = some b) hk3 (fun b hb => .inr hb)).trans ((Keeps.set (F := fun b => b = sb) rfl _).trans (Keeps.set (F := fun b => b = sb) rfl _) (fun _ _ h => h)) (fun _ _ h => .inl h)
        clear hrow hown rowd ownd hown3 row3 hown4 hkept hk3 d2 d3 hfa hfb hfz2 hfz c3 c4 hdw hBd hsl3 hor hHeld hde hmv
        generalize ((w3.setCell ⟨sb, 3, none⟩ (.slice na (p.length + 1) nc)).setCell ⟨sb, 4, none⟩ (.int .u32 (maskN (p ++ [v]) : Int))) = w4 at hG4 hKs ⊢
        have hX4 : XK X w0 w4 := hX2.keeps hKs (fun b hb => ⟨hX b hb, fun h => by
          rcases h with h | h
          · exact HG.out.nx (h ▸ hb)
          · exact (hG2.ne b h).2 hb⟩)
        have hK4 : Keeps (fun b => b = sb ∨ b = pb) w1 w4 := hK2.trans hKs (fun x hx h => by
          rcases h with h | h
          · exact .inl h
          · rcases hnk x h with h2 | h2
            · exact .inr h2
            · omega)
        have hw24 : w2.heap.size ≤ w4.heap.size := hKs.size
        have hnk4 : ∀ b, (Value.slice na (p.length + 1) nc).ownBlock = some b → b = pb ∨ w1.heap.size ≤ b := fun b hb => by
          rcases hnew b hb with h | h
          · exact hnk b h
          · exact .inr (by omega)
        go_wp2_with fail
        refine (ih (p ++ [v]) _ w4 (by have := HPD.out; have := HLEN.out; omega) HVB.out hX4 hG4 (by omega)).mono ?_
        rintro e w5 ⟨pv5, rfl, hG5, hK5, hn5⟩
        have hK45 : Keeps (fun b => b = sb ∨ b = pb) w1 w5 := hK4.trans hK5 (fun x hx h => by
          rcases h with h | h
          · exact .inl h
          · rcases hnk4 x h with h2 | h2
            · exact .inr h2
            · omega)
        have hw45 : w4.heap.size ≤ w5.heap.size := hK5.size
        have hn5b : ∀ b, pv5.ownBlock = some b → b = pb ∨ w1.heap.size ≤ b := fun b hb => by
          rcases hn5 b hb with h | h
          · exact hnk4 b h
          · exact .inr (by omega)
        have hX5 : XK X w0 w5 := hX4.keeps hK5 (fun b hb => ⟨hX b hb, fun h => by
          rcases h with h | h
          · exact HG.out.nx (h ▸ hb)
          · exact (hne4 b h).2 hb⟩)
        clear hG4 hX4 hKs hK5 hnk4 hn5 hnew hX2 hne4
        generalize dfsF (candN H (farF Dl) L ft) (finN H) d (p ++ [v]) = o at *
        cases o with
        | some q =>
          simp only [Option.getD_some, Option.isSome_some] at HS2 hG5 ⊢
          go_wp2
          go_ret
          rw [HS2.out]
          exact ⟨pv5, rfl, hG5, HKW.out.trans hK45 (fun x hx h => by
            rcases h with h | h
            · exact .inl h
            · exact .inr (by rw [hpvb, h])), fun b hb => by
            rcases hn5b b hb with h | h
            · exact .inl (by rw [hpvb, h])
            · exact .inr (by omega)⟩
        | none =>
          simp only [Option.getD_none, Option.isSome_none] at HS2 hG5 ⊢
          obtain ⟨c0, c1, c2, c3, c4, c5, hfz, hsB3, hsl3⟩ := row6 hG5.row
          have hown := hG5.own
          have hrow := hG5.row
          obtain ⟨pa5, pc5, rfl⟩ := hown.isSlice
          rw [HLEN.out] at hown hrow c3
          have hcap := (hown.ints (xs := natsI (p ++ [v])) (by omega)).capOf
          have hcap2 : p.length ≤ pc5 := by omega
          have hml2 : maskN (p ++ [v]) < 4294967296 := by
            have := maskN_lt (p := p ++ [v]) (n := 32) (fun a ha => by have := HVB.out.lt a ha; omega); simpa using this
          have hand := u32_andNot_nat (maskN (p ++ [v])) (bit v) hml2 (bit_lt (by omega))
          have hdrop := maskN_drop (p := p) (v := v) (fun a ha => by have := HP.out.lt a ha; omega) (by omega) HVP.out
          have hand2 : bits BinOp.andNot IntKind.u32 (maskN (p ++ [v]) : Int) (bit v : Int) = (maskN p : Int) := hand.trans (by rw [← hdrop]; rfl)
          have hB5 : B ≤ w5.heap.size := by omega
          have hcap3 : (p.length : Int) ≤ (pc5 : Int) := by omega
          have hwp : IntKind.i64.wrap (p.length : Int) = (p.length : Int) := IntWalk.i64_in _ (by omega)
          clear hand hdrop c0 c1 c2 c5 hcap hml2
          go_wp2
          refine wp_region_late (S := (fun w' => w'.cell? ⟨sb, 3, none⟩ = some (.slice pa5 (p.length + 1) pc5) ∧ w'.cell? ⟨sb, 4, none⟩ = some (.int .u32 (maskN (p ++ [v]) : Int)))) (late := [22, 25]) (by kernel_rfl) ?_ (fun hHeld => ?_)
          · first | exact ⟨‹_›, ‹_›⟩ | (simp [*, go_sem])
          have hdw : Drawn w5 w5.drew := (Drawn.refl _).drew
          generalize w5.drew = wd at hdw hHeld ⊢
          have ownd := hown.drawn hdw
          have rowd := hrow.drawn hdw
          obtain ⟨-, -, -, d2, d3, -, hfz2, -, hsl4⟩ := row6 rowd
          have hfa := hfz2 3
          have hfb := hfz2 4
          refine wpLate_take (i := 0) (v := ?v81) (by simp only [List.getElem?_toArray, List.getElem?_cons_zero]; exact rfl) (by kernel_rfl) (by kernel_rfl) (by kernel_rfl) (by intro _ _ _ h; exact h) (Or.inl ⟨by rfl, ?y81⟩) ?_
          case y81 => (intro w _; go_simp; try (with_reducible rfl))
          try simp only [Act.put, List.setIfInBounds_toArray, List.set_cons_zero, List.set_cons_succ]
          refine wpLate_take (i := 1) (v := ?v82) (by simp only [List.getElem?_toArray, List.getElem?_cons_succ, List.getElem?_cons_zero]; exact rfl) (by kernel_rfl) (by kernel_rfl) (by kernel_rfl) (by intro _ _ _ h; exact h) (Or.inl ⟨by rfl, ?y82⟩) ?_
          case y82 => (intro w _; go_simp; try (with_reducible rfl))
          try simp only [Act.put, List.setIfInBounds_toArray, List.set_cons_zero, List.set_cons_succ]
          refine wpLate_take (i := 2) (v := ?v83) (by simp only [List.getElem?_toArray, List.getElem?_cons_succ, List.getElem?_cons_zero]; exact rfl) (by kernel_rfl) (by kernel_rfl) (by kernel_rfl) (by intro _ _ _ h; exact h) (Or.inl ⟨by rfl, ?y83⟩) ?_
          case y83 => (intro w _; go_simp; try (with_reducible rfl))
          try simp only [Act.put, List.setIfInBounds_toArray, List.set_cons_zero, List.set_cons_succ]
          refine wpLate_take (i := 3) (v := ?v84) (by simp only [List.getElem?_toArray, List.getElem?_cons_succ, List.getElem?_cons_zero]; exact rfl) (by kernel_rfl) (by kernel_rfl) (by kernel_rfl) (by intro _ _ _ h; exact h) (Or.inl ⟨by rfl, ?y84⟩) ?_
          case y84 => (intro w _; go_simp; try (with_reducible rfl))
          try simp only [Act.put, List.setIfInBounds_toArray, List.set_cons_zero, List.set_cons_succ]
          refine wpLate_take (i := 4) (v := ?v85) (by simp only [List.getElem?_toArray, List.getElem?_cons_succ, List.getElem?_cons_zero]; exact rfl) (by kernel_rfl) (by kernel_rfl) (by kernel_rfl) (by intro _ _ _ h; exact h) (Or.inl ⟨by rfl, ?y85⟩) ?_
          case y85 => (intro w _; go_simp; try (with_reducible rfl))
          try simp only [Act.put, List.setIfInBounds_toArray, List.set_cons_zero, List.set_cons_succ]
          refine wpLate_load (i := 5) (v := ?v86) (by simp only [List.getElem?_toArray, List.getElem?_cons_succ, List.getElem?_cons_zero]; exact rfl) (by kernel_rfl) (by kernel_rfl) (by kernel_rfl) (by kernel_rfl) (by intro _ _ _ h; exact h) (Or.inl ⟨by rfl, ?y86⟩) hHeld ?_
          case y86 => (intro w hSw; (try dsimp only at hSw); go_simp; try (with_reducible rfl))
          try simp only [Act.put, List.setIfInBounds_toArray, List.set_cons_zero, List.set_cons_succ]
          refine wpLate_take (i := 6) (v := ?v87) (by simp only [List.getElem?_toArray, List.getElem?_cons_succ, List.getElem?_cons_zero]; exact rfl) (by kernel_rfl) (by kernel_rfl) (by kernel_rfl) (by intro _ _ _ h; exact h) (Or.inl ⟨by rfl, ?y87⟩) ?_
          case y87 => (intro w _; go_simp; try (with_reducible rfl))
          try simp only [Act.put, List.setIfInBounds_toArray, List.set_cons_zero, List.set_cons_succ]
          refine wpLate_take (i := 7) (v := ?v88) (by simp only [List.getElem?_toArray, List.getElem?_cons_succ, List.getElem?_cons_zero]; exact rfl) (by kernel_rfl) (by kernel_rfl) (by kernel_rfl) (by intro _ _ _ h; exact h) (Or.inl ⟨by rfl, ?y88⟩) ?_
          case y88 => (intro w _; go_simp; try (with_reducible rfl))
          try simp only [Act.put, List.setIfInBounds_toArray, List.set_cons_zero, List.set_cons_succ]
          refine wpLate_take (i := 8) (v := ?v89) (by simp only [List.getElem?_toArray, List.getElem?_cons_succ, List.getElem?_cons_zero]; exact rfl) (by kernel_rfl) (by kernel_rfl) (by kernel_rfl) (by intro _ _ _ h; exact h) (Or.inl ⟨by rfl, ?y89⟩) ?_
          case y89 => (intro w _; go_simp; try (with_reducible rfl))
          try simp only [Act.put, List.setIfInBounds_toArray, List.set_cons_zero, List.set_cons_succ]
          refine wpLate_load (i := 9) (v := ?v90) (by simp only [List.getElem?_toArray, List.getElem?_cons_succ, List.getElem?_cons_zero]; exact rfl) (by kernel_rfl) (by kernel_rfl) (by kernel_rfl) (by kernel_rfl) (by intro _ _ _ h; exact h) (Or.inl ⟨by rfl, ?y90⟩) hHeld ?_
          case y90 => (intro w hSw; (try dsimp only at hSw); go_simp; try (with_reducible rfl))
          try simp only [Act.put, List.setIfInBounds_toArray, List.set_cons_zero, List.set_cons_succ]
          refine wpLate_take (i := 10) (v := ?v91) (by simp only [List.getElem?_toArray, List.getElem?_cons_succ, List.getElem?_cons_zero]; exact rfl) (by kernel_rfl) (by kernel_rfl) (by kernel_rfl) (by intro _ _ _ h; exact h) (Or.inl ⟨by rfl, ?y91⟩) ?_
          case y91 => (intro w _; go_simp; try (with_reducible rfl))
          try simp only [Act.put, List.setIfInBounds_toArray, List.set_cons_zero, List.set_cons_succ]
          refine wpLate_take (i := 11) (v := ?v92) (by simp only [List.getElem?_toArray, List.getElem?_cons_succ, List.getElem?_cons_zero]; exact rfl) (by kernel_rfl) (by kernel_rfl) (by kernel_rfl) (by intro _ _ _ h; exact h) (Or.inl ⟨by rfl, ?y92⟩) ?_
          case y92 => (intro w _; go_simp; try (with_reducible rfl))
          try simp only [Act.put, List.setIfInBounds_toArray, List.set_cons_zero, List.set_cons_succ]
          refine wpLate_take (i := 12) (v := ?v93) (by simp only [List.getElem?_toArray, List.getElem?_cons_succ, List.getElem?_cons_zero]; exact rfl) (by kernel_rfl) (by kernel_rfl) (by kernel_rfl) (by intro _ _ _ h; exact h) (Or.inl ⟨by rfl, ?y93⟩) ?_
          case y93 => (intro w _; go_simp; try (with_reducible rfl))
          try simp only [Act.put, List.setIfInBounds_toArray, List.set_cons_zero, List.set_cons_succ]
          refine wpLate_take (i := 13) (v := ?v94) (by simp only [List.getElem?_toArray, List.getElem?_cons_succ, List.getElem?_cons_zero]; exact rfl) (by kernel_rfl) (by kernel_rfl) (by kernel_rfl) (by intro _ _ _ h; exact h) (Or.inl ⟨by rfl, ?y94⟩) ?_
          case y94 => (intro w _; go_simp; try (with_reducible rfl))
          try simp only [Act.put, List.setIfInBounds_toArray, List.set_cons_zero, List.set_cons_succ]
          refine wpLate_take (i := 14) (v := ?v95) (by simp only [List.getElem?_toArray, List.getElem?_cons_succ, List.getElem?_cons_zero]; exact rfl) (by kernel_rfl) (by kernel_rfl) (by kernel_rfl) (by intro _ _ _ h; exact h) (Or.inl ⟨by rfl, ?y95⟩) ?_
          case y95 => (intro w _; go_simp; try (with_reducible rfl))
          try simp only [Act.put, List.setIfInBounds_toArray, List.set_cons_zero, List.set_cons_succ]
          refine wpLate_take (i := 15) (v := ?v96) (by simp only [List.getElem?_toArray, List.getElem?_cons_succ, List.getElem?_cons_zero]; exact rfl) (by kernel_rfl) (by kernel_rfl) (by kernel_rfl) (by intro _ _ _ h; exact h) (Or.inl ⟨by rfl, ?y96⟩) ?_
          case y96 => (intro w _; go_simp; try (with_reducible rfl))
          try simp only [Act.put, List.setIfInBounds_toArray, List.set_cons_zero, List.set_cons_succ]
          refine wpLate_load (i := 16) (v := ?v97) (by simp only [List.getElem?_toArray, List.getElem?_cons_succ, List.getElem?_cons_zero]; exact rfl) (by kernel_rfl) (by kernel_rfl) (by kernel_rfl) (by kernel_rfl) (by intro _ _ _ h; exact h) (Or.inl ⟨by rfl, ?y97⟩) hHeld ?_
          case y97 => (intro w hSw; (try dsimp only at hSw); go_simp; try (with_reducible rfl))
          try simp only [Act.put, List.setIfInBounds_toArray, List.set_cons_zero, List.set_cons_succ]
          refine wpLate_take (i := 17) (v := ?v98) (by simp only [List.getElem?_toArray, List.getElem?_cons_succ, List.getElem?_cons_zero]; exact rfl) (by kernel_rfl) (by kernel_rfl) (by kernel_rfl) (by intro _ _ _ h; exact h) (Or.inl ⟨by rfl, ?y98⟩) ?_
          case y98 => (intro w _; go_simp; try (with_reducible rfl))
          try simp only [Act.put, List.setIfInBounds_toArray, List.set_cons_zero, List.set_cons_succ]
          refine wpLate_one (i := 18) (by kernel_rfl) (by simp only [List.getElem?_toArray, List.getElem?_cons_succ, List.getElem?_cons_zero]; exact rfl) (by kernel_rfl) (fun K hK => ?_)
          go_simp
          refine (one_any _ _ (by omega) (by omega)).mono ?_
          rintro e w' ⟨rfl, rfl⟩
          try dsimp only
          refine hK.out _ _ ?h99 (fun hHeld => ?_)
          case h99 => first | exact ⟨‹_›, ‹_›⟩ | (simp [*, go_sem])
          clear hK K
          try simp only [Act.put, List.setIfInBounds_toArray, List.set_cons_zero, List.set_cons_succ]
          refine wpLate_take (i := 19) (v := ?v100) (by simp only [List.getElem?_toArray, List.getElem?_cons_succ, List.getElem?_cons_zero]; exact rfl) (by kernel_rfl) (by kernel_rfl) (by kernel_rfl) (by intro _ _ _ h; exact h) (Or.inl ⟨by rfl, ?y100⟩) ?_
          case y100 => (intro w _; go_simp; try (with_reducible rfl))
          try simp only [Act.put, List.setIfInBounds_toArray, List.set_cons_zero, List.set_cons_succ]
          refine wpLate_take (i := 20) (v := ?v101) (by simp only [List.getElem?_toArray, List.getElem?_cons_succ, List.getElem?_cons_zero]; exact rfl) (by kernel_rfl) (by kernel_rfl) (by kernel_rfl) (by intro _ _ _ h; exact h) (Or.inl ⟨by rfl, ?y101⟩) ?_
          case y101 => (intro w _; go_simp; try (with_reducible rfl))
          try simp only [Act.put, List.setIfInBounds_toArray, List.set_cons_zero, List.set_cons_succ]
          refine wpLate_take (i := 21) (v := ?v102) (by simp only [List.getElem?_toArray, List.getElem?_cons_succ, List.getElem?_cons_zero]; exact rfl) (by kernel_rfl) (by kernel_rfl) (by kernel_rfl) (by intro _ _ _ h; exact h) (Or.inl ⟨by rfl, ?y102⟩) ?_
          case y102 => (intro w _; go_simp; try (with_reducible rfl))
          try simp only [Act.put, List.setIfInBounds_toArray, List.set_cons_zero, List.set_cons_succ]
          refine wpLate_late (i := 22) (by kernel_rfl) (by simp only [List.getElem?_toArray, List.getElem?_cons_succ, List.getElem?_cons_zero]; exact rfl) (by kernel_rfl) (fun K hK => ?_)
          go_simp
          skip
          try dsimp only
          refine hK.out _ _ ?_
          clear hK K
          try simp only [Act.put, List.setIfInBounds_toArray, List.set_cons_zero, List.set_cons_succ]
          refine wpLate_take (i := 23) (v := ?v104) (by simp only [List.getElem?_toArray, List.getElem?_cons_succ, List.getElem?_cons_zero]; exact rfl) (by kernel_rfl) (by kernel_rfl) (by kernel_rfl) (by intro _ _ _ h; exact h) (Or.inl ⟨by rfl, ?y104⟩) ?_
          case y104 => (intro w _; go_simp; try (with_reducible rfl))
          try simp only [Act.put, List.setIfInBounds_toArray, List.set_cons_zero, List.set_cons_succ]
          refine wpLate_take (i := 24) (v := ?v105) (by simp only [List.getElem?_toArray, List.getElem?_cons_succ, List.getElem?_cons_zero]; exact rfl) (by kernel_rfl) (by kernel_rfl) (by kernel_rfl) (by intro _ _ _ h; exact h) (Or.inl ⟨by rfl, ?y105⟩) ?_
          case y105 => (intro w _; go_simp; try (with_reducible rfl))
          try simp only [Act.put, List.setIfInBounds_toArray, List.set_cons_zero, List.set_cons_succ]
          refine wpLate_late (i := 25) (by kernel_rfl) (by simp only [List.getElem?_toArray, List.getElem?_cons_succ, List.getElem?_cons_zero]; exact rfl) (by kernel_rfl) (fun K hK => ?_)
          go_simp
          skip
          try dsimp only
          refine hK.out _ _ ?_
          clear hK K
          try simp only [Act.put, List.setIfInBounds_toArray, List.set_cons_zero, List.set_cons_succ]
          refine wpLate_done (by kernel_rfl) ?_ _
          have hown5 : Own wd B 3 1 (.slice pa5 p.length pc5) p.length ((natsI p).map (.int .i64)) := by
            have := Own.reslice ownd (m := p.length) (by omega)
            rw [Nat.mul_one, natsI_append, List.map_append, List.take_left' (by simp [natsI])] at this
            exact this
          have hblk : (Value.slice pa5 p.length pc5).ownBlock = (Value.slice pa5 (p ++ [v]).length pc5).ownBlock := ownBlock_slice _ _ _ _
          have hG6 := GL.store (X := X) rowd hown5 (fun b hb => hG5.ne b (by rw [← hb]; exact hblk.symm)) HG.out.nx
          have hK6 : Keeps (fun b => b = sb ∨ b = pb) w1 ((wd.setCell ⟨sb, 3, none⟩ (.slice pa5 p.length pc5)).setCell ⟨sb, 4, none⟩ (.int .u32 (maskN p : Int))) :=
            hK45.trans ((Keeps.ofDrawn (fun b => b = sb) hdw).trans ((Keeps.set (F := fun b => b = sb) rfl _).trans (Keeps.set (F := fun b => b = sb) rfl _) (fun _ _ h => h)) (fun _ _ h => h)) (fun _ _ h => .inl h)
          clear hown hrow rowd ownd hown5 hfa hfb hfz2 hfz c3 c4 hdw hsl4 hand2 d2 d3 hwp hHeld
          generalize ((wd.setCell ⟨sb, 3, none⟩ (.slice pa5 p.length pc5)).setCell ⟨sb, 4, none⟩ (.int .u32 (maskN p : Int))) = w6 at hG6 hK6 ⊢
          go_wp2
          go_roundw
          case rel => exact ⟨k + 1, _, by omega, by go_num, hG6, hK6, fun b hb => hn5b b (by rw [← hb]; exact hblk.symm), Lib.hid HS2.out.symm⟩
          case measure => simp [RowKit.intOf]; omega
theorem row_list {w : World} {b n : Nat} {D : Nat → Int} (h : Row w b n (tabV D)) (hn : n ≤ 1000) : SlI (fun x => x = b) w .i64 (.slice (some ⟨b, 0, none⟩) n n) ((List.range n).map D) := by
  refine ⟨some ⟨b, 0, none⟩, b, 0, n, by simp, ⟨by simp, by omega⟩, fun _ => ⟨rfl, rfl⟩, fun i hi => ?_⟩
  have hi2 : i < n := by simpa using hi
  rw [Nat.zero_add, (h i hi2).1]
  simp [tabV]
theorem farF_range {n v : Nat} {D : Nat → Int} (h : v < n) : farF ((List.range n).map D) v = D v := by simp [farF, h]
def GStep (H : List Nat) (n step : Nat) (q : List Nat) : Prop := LoopN H n q ∧ ∃ j, q.length = 3 + j * step
theorem anyVertex_any {w : World} {pv x : Value} : Calls Tryd.prog 71 #[pv, x] w fun e w' => e = .returned (.bool true) ∧ w = w' := by
  go_enter Tryd.func71, Tryd.ntmps71
  go_wp2
  go_ret
  exact ⟨rfl, rfl⟩
/-- What is wanted of the masks of a graph. -/
structure NetI (H : List Nat) : Prop where
  le : H.length ≤ 16
  lt : ∀ m ∈ H, m < 2 ^ H.length
  sym : ∀ x y, x < H.length → y < H.length → (H.getD x 0).testBit y = true → (H.getD y 0).testBit x = true
theorem NetI.dist {H : List Nat} (h : NetI H) {v : Nat} (hv : v < H.length) : DistI H (firstN H.length) v H.length :=
  ⟨⟨rfl, h.le, h.lt⟩, by unfold firstN; have := Nat.two_pow_pos H.length; omega, hv⟩
theorem first_bit {n x : Nat} (h : x < n) : (firstN n).testBit x = true := by rw [testBit_firstN]; simpa using h
/-- Nothing was found from v on. -/
theorem NoTo.vertex {G : List Nat → Prop} {L v : Nat} (h : NoTo G L v) (hL : 0 < L) (hno : ∀ q, G q → q.length = L → q.getD 0 0 = v → False) : NoTo G L (v + 1) := fun q hq => by
  rcases h q hq with h1 | ⟨h1, h2⟩
  · exact .inl h1
  · refine .inr ⟨h1, ?_⟩
    by_cases e : q.getD 0 0 = v
    · exact (hno q hq h1.symm e).elim
    · omega
theorem NoTo.long {H : List Nat} {n step j : Nat} (h : NoTo (GStep H n step) (3 + j * step) n) : NoTo (GStep H n step) (3 + (j + 1) * step) 0 := fun q hq => by
  obtain ⟨hl, i, hi⟩ := hq
  have h1 : 3 + j * step < q.length := by
    rcases h q ⟨hl, i, hi⟩ with h1 | ⟨h1, h2⟩
    · exact h1
    · have := hl.path.lt _ (getD_mem (show 0 < q.length by have := hl.three; omega)); omega
  have h2 : j + 1 ≤ i := by
    apply Classical.byContradiction
    intro hc
    have := Nat.mul_le_mul_right step (show i ≤ j by omega)
    omega
  have := Nat.mul_le_mul_right step h2
  by_cases e : q.length = 3 + (j + 1) * step
  · exact .inr ⟨e.symm, Nat.zero_le _⟩
  · exact .inl (by omega)
/-- What the search from v finds. -/
theorem dfs_least {H : List Nat} (hN : NetI H) {v L step : Nat} {D : Nat → Int} (hv : v < H.length) (hD : IsDist H (firstN H.length) v H.length D) (hL : 3 ≤ L) (hc : ∃ j, L = 3 + j * step) {q : List Nat}
    (h : dfsF (candN H (farF ((List.range H.length).map D)) L noFit) (finN H) (L - 1) [v] = some q) (hno : NoTo (GStep H H.length step) L v) : LeastG (GStep H H.length step) q := by
  obtain ⟨t, rfl, he, hm⟩ := dfs_some (cand_sorted _ _ _ _) h
  obtain ⟨h1, h2, h3, -⟩ := ext_path hN.lt hN.le (PathN.one hv) he
  have hl : ([v] ++ t).length = L := by simp; omega
  refine least_at hno ⟨⟨h1, by omega, h2⟩, by rw [hl]; exact hc⟩ hl rfl (by omega) fun q' hq' hl' h0 => ?_
  obtain ⟨t', rfl⟩ : ∃ t', q' = v :: t' := by
    match q', h0, hl' with
    | [], _, hl' => simp at hl'; omega
    | a :: t', h0, _ => exact ⟨t', by simpa using h0⟩
  have hlt' : t'.length = L - 1 := by simp at hl'; omega
  have hfar := loop_far (hN.dist hv) hD (fun x hx => first_bit hx) hN.sym hq'.1 rfl
  have hext := path_ext (far := farF ((List.range H.length).map D)) (L := L) (ft := noFit) hN.lt hN.le (p := [v]) (t := t') (by simp) hq'.1.path hq'.1.cl (fun i hi => ?_) (fun i hi => rfl)
  · rw [hlt'] at hext
    have := hm t' hext
    rw [List.singleton_append, ltN, if_pos rfl]
    exact this
  · have hx := hq'.1.path.lt _ (getD_mem (p := v :: t') (i := i + 1) (by simp; omega))
    have e : (v :: t').getD (i + 1) 0 = t'.getD i 0 := rfl
    have h4 := hfar (i + 1) (by omega) (by simp; omega)
    rw [e] at hx h4
    rw [farF_range hx]
    rw [hl'] at h4
    simp only [List.length_singleton]
    exact ⟨h4.1, by omega⟩
theorem dfs_nothing {H : List Nat} (hN : NetI H) {v L step : Nat} {D : Nat → Int} (hv : v < H.length) (hD : IsDist H (firstN H.length) v H.length D) (hL : 3 ≤ L)
    (h : dfsF (candN H (farF ((List.range H.length).map D)) L noFit) (finN H) (L - 1) [v] = none) : ∀ q, GStep H H.length step q → q.length = L → q.getD 0 0 = v → False := fun q' hq' hl' h0 => by
  obtain ⟨t', rfl⟩ : ∃ t', q' = v :: t' := by
    match q', h0, hl' with
    | [], _, hl' => simp at hl'; omega
    | a :: t', h0, _ => exact ⟨t', by simpa using h0⟩
  have hlt' : t'.length = L - 1 := by simp at hl'; omega
  have hfar := loop_far (hN.dist hv) hD (fun x hx => first_bit hx) hN.sym hq'.1 rfl
  have hext := path_ext (far := farF ((List.range H.length).map D)) (L := L) (ft := noFit) hN.lt hN.le (p := [v]) (t := t') (by simp) hq'.1.path hq'.1.cl (fun i hi => ?_) (fun i hi => rfl)
  · rw [hlt'] at hext
    exact dfs_none h t' hext
  · have hx := hq'.1.path.lt _ (getD_mem (p := v :: t') (i := i + 1) (by simp; omega))
    have e : (v :: t').getD (i + 1) 0 = t'.getD i 0 := rfl
    have h4 := hfar (i + 1) (by omega) (by simp; omega)
    rw [e] at hx h4
    rw [farF_range hx]
    rw [hl'] at h4
    simp only [List.length_singleton]
    exact ⟨h4.1, by omega⟩
theorem no_long {H : List Nat} {n step L : Nat} (h : NoTo (GStep H n step) L 0) (hL : n < L) : ∀ q, ¬ GStep H n step q := fun q hq => by
  have := loop_len hq.1.path
  rcases h q hq with h1 | ⟨h1, -⟩ <;> omega
