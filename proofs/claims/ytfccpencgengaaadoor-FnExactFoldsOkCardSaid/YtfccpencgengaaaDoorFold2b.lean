/- Folding by the program: foldedOf. -/
import Derived.Test.YtfccpencgengaaaDoorFold2
namespace Go.Proofs.YtfccpencgengaaaDoor
open Go.RowKit
theorem elFolds : Elem Tryd.prog 34 86 3 24 (.agg #[.int .i64 0, .int .i64 0, .int .i64 0]) := ⟨Tryd.underlying34, by kernel_rfl, rfl, by omega, by omega⟩
def boolV : Value → Bool | .bool b => b | _ => false
def numV (v : Value) : Nat := popN (intOf v).toNat
set_option maxRecDepth 100000 in
set_option maxHeartbeats 8000000 in
theorem foldedOf_any {B left n : Nat} {nv : Value} {a : List Nat} {w : World} (ht : Tab w) (hI : FoldI a left n) (h0 : 0 < n) (hn : Own w B 71 1 nv a.length ((natsI a).map (.int .u32))) (hB0 : 0 < B) :
    Calls Tryd.prog 105 #[nv, .int .u32 (left : Int)] w fun e w' => ∃ fv, e = .returned (.tuple #[fv, .int .u32 ((foldsF 33 a left).2 : Int)]) ∧ KeptBut w w' nv.ownBlock := by
  have h16 := hI.le
  have hlen := hI.len
  obtain ⟨ng, nc, rfl⟩ := own_some hn (by omega)
  have hngl := hn.lt ng rfl
  have ht2 : ∀ w', KeptBut w w' (some ng) → Tab w' := fun w' hk i hi => (World.cell?_of_block (a := ⟨0, i, none⟩) (hk.2.2.2.2 0 (by omega) (fun e => by simp at e; omega))).trans (ht i hi)
  simp only [Value.ownBlock]
  rw [hlen] at hn ⊢
  go_enter Tryd.func105, Tryd.ntmps105
  go_wp2
  go_loopw [1, 6, 7] (fun l o f wr => ∃ (a' : List Nat) (left' fuel m : Nat) (b : Bool) (xs : List Value), l = .int .u32 (left' : Int) ∧ f = .bool b ∧ FoldI a' left' n ∧ popN left' < fuel ∧ foldsF fuel a' left' = foldsF 33 a left ∧ (b = false → foldV a' left' = none) ∧
      Own wr B 71 1 (.slice (some ⟨ng, 0, none⟩) n nc) n ((natsI a').map (.int .u32)) ∧ Own wr w.heap.size 86 3 o m xs ∧ m + popN left' ≤ 32 ∧ KeptBut w wr (some ng)) (fun l _ f _ => 2 * numV l + (if boolV f then 1 else 0))
  case atStart =>
    refine ⟨a, left, 33, 0, true, [], rfl, rfl, hI, by have := popN_32 left; omega, rfl, (fun h => by cases h), hn.alloc _, ?_, by have := popN_32 left; omega, rfl, rfl, rfl, by simp, fun k hk _ => Below.heap_alloc w _ k hk⟩
    exact World.ownsRow_lit (base := w.heap.size) (e := 86) (size := 3) w #[] 0 (Nat.le_refl _) (by unfold maxLen; omega) rfl
  case round =>
    obtain ⟨a', left', fuel, m, b, xs, rfl, rfl, hJ, hfu, hff, hbv, hna, hown, hml, hk⟩ := hrel
    have HFF := Lib.hid hff; clear hff
    have hl32 := hJ.left32
    cases b
    case false =>
      have hst := hbv rfl
      obtain ⟨fu, rfl⟩ : ∃ fu, fuel = fu + 1 := ⟨fuel - 1, by omega⟩
      have hs := HFF.out
      rw [foldsF_stop hst] at hs
      have HS := Lib.hid hs; clear hs hst hbv HFF
      obtain ⟨oa, oc, rfl⟩ := hown.isSlice
      go_wp2
      go_ret2
      rw [← HS.out]
      exact ⟨_, rfl, hk⟩
    have hli := list_any left' _ (ht2 wr hk) hl32
    have hlb : bitsI left' = natsI (bitsN left') := rfl
    rw [hlb, natsI_len] at hli
    have hpn : popN left' = (bitsN left').length := rfl
    have hlt := fun k (h : k < (bitsN left').length) => (mem_bitsN hl32).1 (List.getElem_mem h)
    have hsome := fun k f (h : k < (bitsN left').length) => foldV_some (a := a') (left := left') (k := k) (f := f) h
    have hnone := foldV_none (a := a') (left := left')
    clear hlb hbv
    go_wp2_with (go_at_call 63; refine hli.mono ?_; rintro e w2 ⟨u, rfl, hu, hb2⟩; obtain ⟨ua, ub, uo, uc, rfl, hul, hua, huc0⟩ := Own.ints (xs := natsI (bitsN left')) hu (by have := popN_32 left'; omega))
    simp only [natsI_len] at hul hua ⊢
    clear hli
    have hk2 : KeptBut w w2 (some ng) := hk.trans ⟨hb2.os, hb2.tape, hb2.output, hb2.size, fun k hk _ => hb2.block k hk⟩
    have hna2 := hna.below hb2 (Nat.le_refl _)
    have hown2 := hown.below hb2 (Nat.le_refl _)
    have huge := hu.ge
    have hwr := hk.2.2.2.1
    clear hna hown hk
    go_loopw [1, 6, 7, 17] (fun l o f i wr => ∃ k : Nat, k ≤ (bitsN left').length ∧ i = .int .i64 k ∧ l = .int .u32 (left' : Int) ∧ f = .bool false ∧ (∀ j (hj : j < (bitsN left').length), j < k → foldF a' left' (bitsN left')[j] = none) ∧
      Own wr B 71 1 (.slice (some ⟨ng, 0, none⟩) n nc) n ((natsI a').map (.int .u32)) ∧ Own wr w.heap.size 86 3 o m xs ∧ KeptBut w wr (some ng) ∧ Below w2.heap.size w2 wr) (fun _ _ _ i _ => (bitsN left').length - (intOf i).toNat)
    case atStart => exact ⟨0, Nat.zero_le _, rfl, rfl, rfl, (fun j _ h => by omega), hna2, hown2, hk2, Below.refl _ _⟩
    case round =>
      clear hna2 hown2 hk2
      obtain ⟨wi, rfl⟩ : ∃ x : World, x = wr := ⟨_, rfl⟩
      obtain ⟨k, hkl, rfl, rfl, rfl, hno, hnai, howni, hki, hbi⟩ := hrel
      have hp32 := popN_32 left'
      have HNO := Lib.hid hno; clear hno
      by_cases hlt2 : k < (bitsN left').length
      case neg =>
        have hst := hnone.2 (fun v hv => by
          obtain ⟨j, hj, rfl⟩ := List.getElem_of_mem hv
          exact HNO.out j hj (by omega))
        have HST := Lib.hid hst; clear hst hnone hsome hlt hpn
        go_wp2
        go_roundw
        case rel => exact ⟨a', left', fuel, m, false, xs, rfl, rfl, hJ, hfu, HFF.out, fun _ => HST.out, hnai, howni, hml, hki⟩
        case measure => simp [boolV]
      have hcell0 := huc0 k (by rw [natsI_len]; exact hlt2)
      rw [natsI_get] at hcell0
      obtain ⟨rfl, -⟩ := hua (by omega)
      have hcell := (hbi.cell (p := ⟨ub, uo + k, none⟩) (cell_lt hcell0)).trans hcell0
      have hvl := hlt k hlt2
      have hsm := fun f => hsome k f hlt2 HNO.out
      have hnx : ∀ (h : foldF a' left' (bitsN left')[k] = none) j (hj : j < (bitsN left').length), j < k + 1 → foldF a' left' (bitsN left')[j] = none := fun h j hj hjk => by
        by_cases e : j = k
        · subst e; exact h
        · exact HNO.out j hj (by omega)
      have HNX := Lib.hid hnx; clear hnx hcell0 hnone hsome hlt HNO
      generalize (bitsN left')[k] = v at *
      have hvn := bit_lt_of hJ.left hvl
      have hni : SlI (fun b => (Value.slice (some ⟨ng, 0, none⟩) n nc).ownBlock = some b) wi .u32 (.slice (some ⟨ng, 0, none⟩) n nc) (natsI a') := Own.ints hnai (by omega)
      have hfo := foldOf_any (ht2 wi hki) hJ hni hvn
      have HPN := Lib.hid hpn; clear hpn
      cases hf : foldF a' left' v with
      | none =>
        rw [hf] at hfo
        have HX := Lib.hid (HNX.out hf); clear hf hsm HNX
        unfold TriP at hfo
        simp only [Option.getD_none, Option.isSome_none, triV] at hfo
        go_wp2_with fail
        refine hfo.mono ?_
        rintro e w3 ⟨rfl, hb3⟩
        clear hfo
        go_wp2
        go_roundw
        case rel => exact ⟨k + 1, by omega, by go_num, rfl, rfl, HX.out, (hnai.below hb3 (Nat.le_refl _)).alloc _, (howni.below hb3 (Nat.le_refl _)).alloc _, (hki.trans ⟨hb3.os, hb3.tape, hb3.output, hb3.size, fun k hk _ => hb3.block k hk⟩).trans ⟨rfl, rfl, rfl, by simp, fun k hk _ => Below.heap_alloc w3 _ k hk⟩, (hbi.trans (hb3.mono hbi.size)).alloc (by have := hb3.size; have := hbi.size; omega) _⟩
        case measure => simp [intOf]; omega
      | some f =>
        have hsv := hsm f hf
        obtain ⟨fu, rfl⟩ : ∃ fu, fuel = fu + 1 := ⟨fuel - 1, by omega⟩
        have hs := HFF.out
        rw [foldsF_step hsv hf] at hs
        have hJ2 := hJ.next hvn hf
        have hpl := pop_less hl32 hvl
        have HF := Lib.hid hf
        rw [hf] at hfo
        have han : bits BinOp.andNot IntKind.u32 (left' : Int) (bit v : Int) = (andN left' (bit v) : Int) := u32_andNot_nat left' (bit v) hl32 (bit_lt (by omega))
        have HS := Lib.hid hs; clear hf hsm HNX HFF hs hsv
        have hfaw := fun (w4 : World) (h : Own w4 B 71 1 (.slice (some ⟨ng, 0, none⟩) n nc) a'.length ((natsI a').map (.int .u32))) => foldAway_any hJ HF.out h
        rw [hJ.len] at hfaw
        obtain ⟨fa, fb, fc⟩ := f
        unfold TriP at hfo
        simp only [Option.getD_some, Option.isSome_some, triV] at hfo hfaw
        go_wp2_with fail
        refine hfo.mono ?_
        rintro e w3 ⟨rfl, hb3⟩
        clear hfo
        have hki3 : KeptBut w w3 (some ng) := hki.trans ⟨hb3.os, hb3.tape, hb3.output, hb3.size, fun k hk _ => hb3.block k hk⟩
        have hna3 := hnai.below hb3 (Nat.le_refl _)
        have hown3 := howni.below hb3 (Nat.le_refl _)
        have hna4 := hna3.alloc (.cells #[.int .i64 fa, .int .i64 fb, .int .i64 fc] 86)
        have hown4 := hown3.alloc (.cells #[.int .i64 fa, .int .i64 fb, .int .i64 fc] 86)
        have hki4 : KeptBut w (w3.alloc (.cells #[.int .i64 fa, .int .i64 fb, .int .i64 fc] 86)) (some ng) := hki3.trans ⟨rfl, rfl, rfl, by simp, fun k hk _ => Below.heap_alloc w3 _ k hk⟩
        go_wp2_with fail
        (with_reducible refine (hfaw _ hna4).mono ?_)
        rintro e w5 ⟨rfl, hna5, hkp5⟩
        have hki5 := hki4.trans hkp5
        have hown5 := Own.kept hown4 hkp5 (fun b hb he => by simp [Value.ownBlock] at he; have := (hown4.lt b hb).1; omega)
        have hfb : ∀ j (z : Value), (w3.alloc (.cells #[.int .i64 fa, .int .i64 fb, .int .i64 fc] 86)).cell? ⟨w3.heap.size, j, none⟩ = some z → w5.cell? ⟨w3.heap.size, j, none⟩ = some z := fun j z h => (World.cell?_of_block (a := ⟨w3.heap.size, j, none⟩) (hkp5.2.2.2.2 w3.heap.size (by simp) (fun e => by simp [Value.ownBlock] at e; have := hki3.2.2.2.1; omega))).trans h
        have k0 := hfb 0 _ (show _ = some (.int .i64 fa) by simp [go_sem])
        have k1 := hfb 1 _ (show _ = some (.int .i64 fb) by simp [go_sem])
        have k2 := hfb 2 _ (show _ = some (.int .i64 fc) by simp [go_sem])
        have hB5 : w.heap.size ≤ w5.heap.size := hki5.2.2.2.1
        clear hfaw hfb
        go_wp2_with (first
          | (go_at_call 76; refine (one_any _ _ (by omega) (by omega)).mono ?_; rintro e w' ⟨rfl, rfl⟩)
          | (at_builtin; refine wpList_append1m elFolds rfl _ _ rfl hown5 rfl rfl rfl rfl (by simp [Value.oneCell']) (by omega) hB5 ?_; intro v' w6 hown6 hkept hmv))
        have hki6 : KeptBut w w6 (some ng) := ⟨hkept.1.trans hki5.1, hkept.2.1.trans hki5.2.1, hkept.2.2.1.trans hki5.2.2.1, Nat.le_trans hki5.2.2.2.1 hkept.2.2.2.1, fun i hi hr => (hkept.2.2.2.2 i (Nat.lt_of_lt_of_le hi hB5) (fun e => by have := (hown5.lt i e.symm).1; omega)).trans (hki5.2.2.2.2 i hi hr)⟩
        have hna6 := Own.kept hna5 hkept (fun b hb he => by simp [Value.ownBlock] at hb; have := (hown5.lt b he).1; omega)
        go_roundw
        case rel => exact ⟨foldN a' ⟨fa, fb, fc⟩, andN left' (bit v), fu, m + 1, true, _, rfl, rfl, hJ2, by omega, HS.out, (fun h => by cases h), hna6, hown6, by omega, hki6⟩
        case measure => simp only [numV, boolV, intOf, Int.toNat_natCast, if_true]; omega
end Go.Proofs.YtfccpencgengaaaDoor
