/- The reference's CliquesOf and the cliques' masks. -/
import Derived.Test.YtpdlcnpmljfclaaDoorPeoM
import Derived.Test.YtpdlcnpmljfclaaDoorNet
import Derived.Test.YtpdlcnpmljfclaaDoorLaws
import Derived.Test.YtpdlcnpmljfclaaDoorTwo
import Derived.Test.YtpdlcnpmljfclaaDoorMod3
import Derived.Test.YtpdlcnpmljfclaaDoorClq4
import Derived.Test.YtpdlcnpmljfclaaDoorPutL
import Derived.Test.YtpdlcnpmljfclaaDoorOrb3
import Derived.Test.YtpdlcnpmljfclaaDoorDist3
namespace Go.Proofs.YtpdlcnpmljfclaaDoor
open Go.RowKit
theorem peoF_findC {H : List Nat} {n left v : Nat} {out : List Nat} (hl : left < 4294967296) (hv : left.testBit v = true) (h : simpB H left v = true) (hb : ∀ j, j < v → left.testBit j = true → simpB H left j = false) :
    peoF H (n + 1) left out = peoF H n (andN left (bit v)) (out ++ [v]) := by
  have h0 : left ≠ 0 := fun e => by rw [e, Nat.zero_testBit] at hv; cases hv
  have hf : (bitsN left).find? (simpB H left) = some v := by
    rw [List.find?_eq_some_iff_append]
    refine ⟨h, ?_⟩
    obtain ⟨a, b, e⟩ := List.append_of_mem ((mem_bitsN hl).2 hv)
    refine ⟨a, b, e, fun x hx => ?_⟩
    have hs := bitsN_sorted left
    rw [e, List.pairwise_append] at hs
    have hlt := hs.2.2 x hx v (by simp)
    have hxm : left.testBit x = true := (mem_bitsN hl).1 (by rw [e]; simp [hx])
    rw [hb x hlt hxm]; rfl
  rw [peoF, if_neg h0, hf]
theorem peoF_noneC {H : List Nat} {n left : Nat} {out : List Nat} (hl : left < 4294967296) (h0 : left ≠ 0) (h : ∀ v, left.testBit v = true → simpB H left v = false) : peoF H (n + 1) left out = none :=
  peoF_none h0 fun v hv => h v ((mem_bitsN hl).1 hv)
open Classical in
/-- All of a set are neighbours. -/
noncomputable def clqB (H : List Nat) (s : Nat) : Bool := decide (CliqN H s)
open Classical in
theorem clqB_iff {H : List Nat} {s : Nat} : clqB H s = true ↔ CliqN H s := by
  unfold clqB
  rw [decide_eq_true_eq]
open Classical in
theorem simp_clq {H : List Nat} {left v : Nat} (hH : ∀ v, H.getD v 0 < 4294967296) (hsy : ∀ x y, (H.getD x 0).testBit y = true → (H.getD y 0).testBit x = true) : simpB H left v = clqB H (H.getD v 0 &&& left) := by
  unfold simpB clqB
  rw [decide_eq_decide]
  exact miss_zero (Nat.lt_of_le_of_lt Nat.and_le_left (hH v)) hH fun x y _ _ => hsy x y
/-- Pairs of a list up to the k-th of the i-th, each of neighbours. -/
def PairsC (H : List Nat) (l : List Nat) (i k : Nat) : Prop := ∀ a b, b < a → (a < i ∨ a = i ∧ b < k) → ∀ x y, l[a]? = some x → l[b]? = some y → (H.getD y 0).testBit x = true
theorem PairsC.cliq {H : List Nat} {s i : Nat} (hs : s < 4294967296) (hsy : ∀ x y, (H.getD x 0).testBit y = true → (H.getD y 0).testBit x = true) (h : (bitsN s).length ≤ i) : PairsC H (bitsN s) i 0 ↔ CliqN H s := by
  constructor
  · intro hp x y hx hy hne
    obtain ⟨a, ha, ea⟩ := List.getElem_of_mem ((mem_bitsN hs).2 hx)
    obtain ⟨b, hb, eb⟩ := List.getElem_of_mem ((mem_bitsN hs).2 hy)
    have hab : a ≠ b := fun e => by subst e; exact hne (ea.symm.trans eb)
    rcases Nat.lt_or_gt_of_ne hab with h1 | h1
    · exact hp b a h1 (.inl (by omega)) y x (by rw [List.getElem?_eq_getElem hb, eb]) (by rw [List.getElem?_eq_getElem ha, ea])
    · exact hsy _ _ (hp a b h1 (.inl (by omega)) x y (by rw [List.getElem?_eq_getElem ha, ea]) (by rw [List.getElem?_eq_getElem hb, eb]))
  · intro hc a b hba _ x y hx hy
    obtain ⟨ha, ea⟩ := List.getElem?_eq_some_iff.1 hx
    obtain ⟨hb, eb⟩ := List.getElem?_eq_some_iff.1 hy
    have hlt := List.pairwise_iff_getElem.1 (bitsN_sorted s) b a hb ha hba
    rw [ea, eb] at hlt
    exact hc y x ((mem_bitsN hs).1 (by rw [← eb]; exact List.getElem_mem hb)) ((mem_bitsN hs).1 (by rw [← ea]; exact List.getElem_mem ha)) (by omega)
theorem PairsC.next {H l : List Nat} {i k : Nat} (hi : i < l.length) (hk : k < l.length) (hki : k < i) : PairsC H l i (k + 1) ↔ PairsC H l i k ∧ (H.getD l[k] 0).testBit l[i] = true := by
  constructor
  · intro h
    exact ⟨fun a b hba hab x y hx hy => h a b hba (hab.imp_right fun h2 => ⟨h2.1, by omega⟩) x y hx hy, h i k hki (.inr ⟨rfl, by omega⟩) _ _ (List.getElem?_eq_getElem hi) (List.getElem?_eq_getElem hk)⟩
  · rintro ⟨h1, h2⟩ a b hba hab x y hx hy
    by_cases e : a = i ∧ b = k
    · obtain ⟨rfl, rfl⟩ := e
      rw [List.getElem?_eq_getElem hi] at hx
      rw [List.getElem?_eq_getElem hk] at hy
      cases hx; cases hy
      exact h2
    · exact h1 a b hba (hab.imp_right fun h => ⟨h.1, by omega⟩) x y hx hy
theorem PairsC.row {H l : List Nat} {i : Nat} : PairsC H l (i + 1) 0 ↔ PairsC H l i i := by
  unfold PairsC
  constructor
  · intro h a b hba hab x y hx hy
    exact h a b hba (by omega) x y hx hy
  · intro h a b hba hab x y hx hy
    exact h a b hba (by omega) x y hx hy
theorem PairsC.zero (H l : List Nat) : PairsC H l 0 0 := fun a b hba hab => by omega
/-- Marks of the ones that are gone. -/
def GonB (w : World) (B : Nat) (E : TypeId) (v : Value) (n m : Nat) : Prop := Own w B E 1 v n ((List.range n).map fun i => Value.bool (m.testBit i))
theorem GonB.cell {w : World} {B b c n m : Nat} {E : TypeId} (h : GonB w B E (.slice (some ⟨b, 0, none⟩) n c) n m) {i : Nat} (hi : i < n) : w.cell? ⟨b, i, none⟩ = some (.bool (m.testBit i)) := by
  refine (World.ownsRow.cellAt h i (by omega)).trans ?_
  simp [hi]
theorem GonB.set {w : World} {B b c n m v : Nat} {E : TypeId} (h : GonB w B E (.slice (some ⟨b, 0, none⟩) n c) n m) (hv : v < n) : GonB (w.setCell ⟨b, v, none⟩ (.bool true)) B E (.slice (some ⟨b, 0, none⟩) n c) n (m ||| bit v) := by
  have h1 := Own.stored h v (.bool true)
  have e : ((List.range n).map fun i => Value.bool (m.testBit i)).set v (.bool true) = (List.range n).map fun i => Value.bool ((m ||| bit v).testBit i) := by
    apply List.ext_getElem
    · simp
    · intro i h2 h3
      rw [List.getElem_set]
      simp only [List.getElem_map, List.getElem_range, Nat.testBit_or, testBit_bit]
      split
      · rename_i e; subst e; simp
      · rename_i e; simp [e]
  rw [e] at h1
  exact h1
set_option maxHeartbeats 2000000 in
theorem l1Edge_anyC {S : Nat → Prop} {v : Value} {g : List (List Int)} {x y : Nat} {w : World} (hg : GOk g) (hv : SlR S w v g) (hx : x < g.length) :
    Calls Tryd.prog 142 #[.agg #[v], .int .i64 (x : Int), .int .i64 (y : Int)] w fun e w' => e = .returned (.bool (((netsL g).getD x 0).testBit y)) ∧ Below w.heap.size w w' := by
  have hq0 : Below w.heap.size w (w.alloc (.cells #[v] 29)) := (Below.refl _ _).alloc (Nat.le_refl _) _
  have hv1 := hv.below hq0 (Nat.le_refl _)
  obtain ⟨ga, gb, goff, gcap, gf, rfl, hgl, hga, hgc⟩ := hv1
  obtain ⟨rfl, -⟩ := hga (by omega)
  obtain ⟨c0, hrow⟩ := hgc x hx
  have hha := l1Has_any _ _ (y : Int) (w.alloc (.cells #[.slice (some ⟨gb, goff, none⟩) g.length gcap] 29)) hrow
  have he : decide ((y : Int) ∈ g[x]) = ((netsL g).getD x 0).testBit y := by
    rw [Bool.eq_iff_iff, decide_eq_true_eq, net_bit hg, show g.getD x [] = g[x] by simp [hx]]
    exact ⟨fun h => ⟨hx, h⟩, fun h => h.2⟩
  rw [he] at hha
  obtain ⟨ra, rc, hre⟩ := hrow.slice
  rw [hre] at c0 hha
  clear he hrow hre hgc hga hgl
  generalize ((netsL g).getD x 0).testBit y = b at *
  generalize g[x] = row at *
  go_enter Tryd.func142, Tryd.ntmps142
  go_wp2_with (go_at_call 56; refine hha.mono ?_; rintro e w' ⟨rfl, rfl⟩)
  go_ret
  exact ⟨rfl, hq0⟩
set_option maxRecDepth 100000 in
set_option maxHeartbeats 4000000 in
theorem l7Missing_anyC {S S' : Nat → Prop} {v u : Value} {g : List (List Int)} {s : Nat} {w : World} (hg : GOk g) (hv : SlR S w v g) (hu : SlI S' w .i64 u (bitsI s)) (hs : s < 2 ^ g.length) :
    Calls Tryd.prog 132 #[.agg #[v], u] w fun e w' => ∃ c : Nat, e = .returned (.int .i64 (c : Int)) ∧ (c = 0 ↔ CliqN (netsL g) s) ∧ Below w.heap.size w w' := by
  have hs32 : s < 4294967296 := Nat.lt_of_lt_of_le hs (by have := pow_le16 hg.hi; omega)
  have hsy : ∀ x y, ((netsL g).getD x 0).testBit y = true → ((netsL g).getD y 0).testBit x = true := fun _ _ h => (net_sym hg h).2.2.2
  have hq0 : Below w.heap.size w (w.alloc (.cells #[v] 29)) := (Below.refl _ _).alloc (Nat.le_refl _) _
  obtain ⟨va, vc, rfl⟩ := hv.slice
  have c0 : (w.alloc (.cells #[.slice va g.length vc] 29)).cell? ⟨w.heap.size, 0, none⟩ = some (.slice va g.length vc) := by simp [go_sem]
  rw [bits_nats] at hu
  obtain ⟨ub, uo, ucap, hue, huc⟩ := hu.at_
  obtain ⟨ua, uc, rfl⟩ := hu.slice
  rw [natsI_len] at hue
  simp only [natsI_len] at *
  have HED := Lib.hid (fun (x y : Nat) (hx : x < g.length) (W : World) (hb : Below w.heap.size w W) => l1Edge_anyC (y := y) hg (hv.below hb (Nat.le_refl _)) hx)
  have HUE := Lib.hid hue
  have HUC := Lib.hid (fun (k : Nat) (hk : k < (bitsN s).length) (W : World) (hb : Below w.heap.size w W) => show W.cell? ⟨ub, uo + k, none⟩ = some (.int .i64 (((bitsN s)[k] : Nat) : Int)) from by
    have h := huc k hk
    refine ((hb.cell (p := ⟨ub, uo + k, none⟩) (cell_lt h)).trans h).trans ?_
    rw [natsI_get])
  have HLT := Lib.hid (fun v (hv : v ∈ bitsN s) => show v < g.length from bit_lt_of hs ((mem_bitsN hs32).1 hv))
  have hll : (bitsN s).length ≤ 32 := popN_32 s
  have HFIN := Lib.hid (fun (i : Nat) (hi : (bitsN s).length ≤ i) => PairsC.cliq (H := netsL g) (i := i) hs32 hsy hi)
  generalize hl : bitsN s = l at *
  clear hl hue huc hu hv hsy hs32 hs
  go_enter Tryd.func132, Tryd.ntmps132
  go_wp2
  go_loopw [5, 6] (fun mv iv wr => ∃ i c : Nat, i ≤ l.length ∧ iv = .int .i64 (i : Int) ∧ mv = .int .i64 (c : Int) ∧ c ≤ 64 * i ∧ RowKit.Hid (c = 0 ↔ PairsC (netsL g) l i 0) ∧ Below w.heap.size w wr ∧ wr.cell? ⟨w.heap.size, 0, none⟩ = some (.slice va g.length vc)) (fun _ iv _ => l.length - (RowKit.intOf iv).toNat)
  case atStart => exact ⟨0, 0, Nat.zero_le _, rfl, rfl, by omega, Lib.hid ⟨fun _ => PairsC.zero _ _, fun _ => rfl⟩, hq0, c0⟩
  case round =>
    clear hq0 c0
    obtain ⟨i, c, hi, rfl, rfl, hci, HC, hq, c1⟩ := hrel
    by_cases hlt : i < l.length
    case neg =>
      have HF := Lib.hid (HC.out.trans (HFIN.out i (by omega)))
      have hcf := Lib.hid (show PairsC (netsL g) l i 0 ↔ PairsC (netsL g) l i 0 from Iff.rfl)
      go_wp2
      go_ret
      exact ⟨c, rfl, HF.out, hq⟩
    have hue2 := HUE.out (by omega)
    simp only [Value.slice.injEq, true_and] at hue2
    obtain ⟨rfl, rfl⟩ := hue2
    have HC0 : RowKit.Hid (c = 0 ↔ PairsC (netsL g) l i 0) := HC
    go_wp2
    go_loopw [5, 7] (fun mv kv wr => ∃ k c : Nat, k ≤ i ∧ kv = .int .i64 (k : Int) ∧ mv = .int .i64 (c : Int) ∧ c ≤ 64 * i + k ∧ RowKit.Hid (c = 0 ↔ PairsC (netsL g) l i k) ∧ Below w.heap.size w wr ∧ wr.cell? ⟨w.heap.size, 0, none⟩ = some (.slice (va) g.length vc)) (fun _ kv _ => i - (RowKit.intOf kv).toNat)
    case atStart => exact ⟨0, c, Nat.zero_le _, rfl, rfl, by omega, HC0, hq, c1⟩
    case round =>
      clear HC HC0 hq c1 hci
      obtain ⟨k, c, hk, rfl, rfl, hci, HC, hq, c1⟩ := hrel
      by_cases hki : k < i
      case neg =>
        have hke : k = i := by omega
        have HC2 : RowKit.Hid (c = 0 ↔ PairsC (netsL g) l (i + 1) 0) := Lib.hid (by rw [PairsC.row, ← hke]; rw [hke]; have := HC.out; rw [hke] at this; exact this)
        clear hke
        go_wp2
        go_roundw
        case rel => exact ⟨i + 1, c, by omega, by go_num, rfl, by omega, HC2, hq, c1⟩
        case measure => simp [RowKit.intOf]; omega
      have hkl : k < l.length := by omega
      have d1 := HUC.out i hlt wr hq
      have d2 := HUC.out k hkl wr hq
      have hxn := HLT.out l[k] (List.getElem_mem hkl)
      have HNX := Lib.hid (PairsC.next (H := netsL g) hlt hkl hki)
      have HEDk := Lib.hid (fun (y : Nat) (W : World) (hb : Below w.heap.size w W) => HED.out l[k] y hxn W hb)
      generalize l[i] = x at *
      generalize l[k] = y at *
      have HEX := Lib.hid (fun (W : World) (hb : Below w.heap.size w W) => HEDk.out x W hb)
      generalize ((netsL g).getD y 0).testBit x = tb at *
      cases tb with
      | true =>
        have HC2 : RowKit.Hid (c = 0 ↔ PairsC (netsL g) l i (k + 1)) := Lib.hid (by rw [HNX.out, HC.out]; simp)
        go_wp2
        refine wp_region_held_drew (S := (fun w' => w'.cell? ⟨w.heap.size, 0, none⟩ = some (.slice va g.length vc) ∧ w'.cell? ⟨ub, uo + k, none⟩ = some (.int .i64 (y : Int)) ∧ w'.cell? ⟨ub, uo + i, none⟩ = some (.int .i64 (x : Int)))) (by kernel_rfl) ?_ (fun hHeld => ?_)
        · first | exact ⟨‹_›, ‹_›, ‹_›⟩ | (simp [*, go_sem])
        have hbd : Below wr.heap.size wr wr.drew := ((Drawn.refl _).drew).below _
        generalize wr.drew = wd at hbd hHeld ⊢
        have hH2 := hHeld
        obtain ⟨e0, e1, e2⟩ := hH2
        refine wpAnyH_take (i := 0) (v := ?v1) (by simp only [List.getElem?_toArray, List.getElem?_cons_zero]; exact rfl) (by kernel_rfl) (by kernel_rfl) (by kernel_rfl) (by intro _ _ _ h; exact h) (Or.inl ⟨by rfl, ?y1⟩) hHeld ?_
        case y1 => (intro w hSw; (try dsimp only at hSw); go_simp; try (with_reducible rfl))
        try simp only [Act.put, List.setIfInBounds_toArray, List.set_cons_zero, List.set_cons_succ]
        refine wpAnyH_take (i := 1) (v := ?v2) (by simp only [List.getElem?_toArray, List.getElem?_cons_succ, List.getElem?_cons_zero]; exact rfl) (by kernel_rfl) (by kernel_rfl) (by kernel_rfl) (by intro _ _ _ h; exact h) (Or.inl ⟨by rfl, ?y2⟩) hHeld ?_
        case y2 => (intro w hSw; (try dsimp only at hSw); go_simp; try (with_reducible rfl))
        try simp only [Act.put, List.setIfInBounds_toArray, List.set_cons_zero, List.set_cons_succ]
        refine wpAnyH_take (i := 2) (v := ?v3) (by simp only [List.getElem?_toArray, List.getElem?_cons_succ, List.getElem?_cons_zero]; exact rfl) (by kernel_rfl) (by kernel_rfl) (by kernel_rfl) (by intro _ _ _ h; exact h) (Or.inl ⟨by rfl, ?y3⟩) hHeld ?_
        case y3 => (intro w hSw; (try dsimp only at hSw); go_simp; try (with_reducible rfl))
        try simp only [Act.put, List.setIfInBounds_toArray, List.set_cons_zero, List.set_cons_succ]
        refine wpAnyH_take (i := 3) (v := ?v4) (by simp only [List.getElem?_toArray, List.getElem?_cons_succ, List.getElem?_cons_zero]; exact rfl) (by kernel_rfl) (by kernel_rfl) (by kernel_rfl) (by intro _ _ _ h; exact h) (Or.inl ⟨by rfl, ?y4⟩) hHeld ?_
        case y4 => (intro w hSw; (try dsimp only at hSw); go_simp; try (with_reducible rfl))
        try simp only [Act.put, List.setIfInBounds_toArray, List.set_cons_zero, List.set_cons_succ]
        refine wpAnyH_take (i := 4) (v := ?v5) (by simp only [List.getElem?_toArray, List.getElem?_cons_succ, List.getElem?_cons_zero]; exact rfl) (by kernel_rfl) (by kernel_rfl) (by kernel_rfl) (by intro _ _ _ h; exact h) (Or.inl ⟨by rfl, ?y5⟩) hHeld ?_
        case y5 => (intro w hSw; (try dsimp only at hSw); go_simp; try (with_reducible rfl))
        try simp only [Act.put, List.setIfInBounds_toArray, List.set_cons_zero, List.set_cons_succ]
        refine wpAnyH_take (i := 5) (v := ?v6) (by simp only [List.getElem?_toArray, List.getElem?_cons_succ, List.getElem?_cons_zero]; exact rfl) (by kernel_rfl) (by kernel_rfl) (by kernel_rfl) (by intro _ _ _ h; exact h) (Or.inl ⟨by rfl, ?y6⟩) hHeld ?_
        case y6 => (intro w hSw; (try dsimp only at hSw); go_simp; try (with_reducible rfl))
        try simp only [Act.put, List.setIfInBounds_toArray, List.set_cons_zero, List.set_cons_succ]
        refine wpAnyH_take (i := 6) (v := ?v7) (by simp only [List.getElem?_toArray, List.getElem?_cons_succ, List.getElem?_cons_zero]; exact rfl) (by kernel_rfl) (by kernel_rfl) (by kernel_rfl) (by intro _ _ _ h; exact h) (Or.inl ⟨by rfl, ?y7⟩) hHeld ?_
        case y7 => (intro w hSw; (try dsimp only at hSw); go_simp; try (with_reducible rfl))
        try simp only [Act.put, List.setIfInBounds_toArray, List.set_cons_zero, List.set_cons_succ]
        refine wpAnyH_take (i := 7) (v := ?v8) (by simp only [List.getElem?_toArray, List.getElem?_cons_succ, List.getElem?_cons_zero]; exact rfl) (by kernel_rfl) (by kernel_rfl) (by kernel_rfl) (by intro _ _ _ h; exact h) (Or.inl ⟨by rfl, ?y8⟩) hHeld ?_
        case y8 => (intro w hSw; (try dsimp only at hSw); go_simp; try (with_reducible rfl))
        try simp only [Act.put, List.setIfInBounds_toArray, List.set_cons_zero, List.set_cons_succ]
        refine wpAnyH_take (i := 8) (v := ?v9) (by simp only [List.getElem?_toArray, List.getElem?_cons_succ, List.getElem?_cons_zero]; exact rfl) (by kernel_rfl) (by kernel_rfl) (by kernel_rfl) (by intro _ _ _ h; exact h) (Or.inl ⟨by rfl, ?y9⟩) hHeld ?_
        case y9 => (intro w hSw; (try dsimp only at hSw); go_simp; try (with_reducible rfl))
        try simp only [Act.put, List.setIfInBounds_toArray, List.set_cons_zero, List.set_cons_succ]
        refine wpAnyH_ready (rs := [9]) (by kernel_rfl) (by simp) ?_
        refine AllReadyH.cons (by simp only [List.getElem?_toArray, List.getElem?_cons_succ, List.getElem?_cons_zero]; exact rfl) (fun K hK => ?_) AllReadyH.nil
        go_simp
        refine (HEX.out wd (hq.trans (hbd.mono hq.size))).mono ?_
        rintro e w3 ⟨rfl, hb3⟩
        have hb4 := hbd.trans (hb3.mono hbd.size)
        have e0 := (hb3.cell (cell_lt e0)).trans e0
        have e1 := (hb3.cell (cell_lt e1)).trans e1
        have e2 := (hb3.cell (cell_lt e2)).trans e2
        try dsimp only
        refine hK.out _ _ ?h11 (fun hHeld => ?_)
        case h11 => first | exact ⟨‹_›, ‹_›, ‹_›⟩ | (simp [*, go_sem])
        clear hK K
        try simp only [Act.put, List.setIfInBounds_toArray, List.set_cons_zero, List.set_cons_succ]
        refine wpAnyH_take (i := 10) (v := ?v12) (by simp only [List.getElem?_toArray, List.getElem?_cons_succ, List.getElem?_cons_zero]; exact rfl) (by kernel_rfl) (by kernel_rfl) (by kernel_rfl) (by intro _ _ _ h; exact h) (Or.inl ⟨by rfl, ?y12⟩) hHeld ?_
        case y12 => (intro w hSw; (try dsimp only at hSw); go_simp; try (with_reducible rfl))
        try simp only [Act.put, List.setIfInBounds_toArray, List.set_cons_zero, List.set_cons_succ]
        refine wpAnyH_done (by kernel_rfl) ?_ _
        have hq4 := hq.trans (hb4.mono hq.size)
        go_wp2
        go_roundw
        case rel => exact ⟨k + 1, c, by omega, by go_num, rfl, by omega, HC2, hq4, e0⟩
        case measure => simp [RowKit.intOf]; omega
      | false =>
        have HC2 : RowKit.Hid (c + 1 = 0 ↔ PairsC (netsL g) l i (k + 1)) := Lib.hid (by rw [HNX.out]; simp)
        go_wp2
        refine wp_region_held_drew (S := (fun w' => w'.cell? ⟨w.heap.size, 0, none⟩ = some (.slice va g.length vc) ∧ w'.cell? ⟨ub, uo + k, none⟩ = some (.int .i64 (y : Int)) ∧ w'.cell? ⟨ub, uo + i, none⟩ = some (.int .i64 (x : Int)))) (by kernel_rfl) ?_ (fun hHeld => ?_)
        · first | exact ⟨‹_›, ‹_›, ‹_›⟩ | (simp [*, go_sem])
        have hbd : Below wr.heap.size wr wr.drew := ((Drawn.refl _).drew).below _
        generalize wr.drew = wd at hbd hHeld ⊢
        have hH2 := hHeld
        obtain ⟨e0, e1, e2⟩ := hH2
        refine wpAnyH_take (i := 0) (v := ?v13) (by simp only [List.getElem?_toArray, List.getElem?_cons_zero]; exact rfl) (by kernel_rfl) (by kernel_rfl) (by kernel_rfl) (by intro _ _ _ h; exact h) (Or.inl ⟨by rfl, ?y13⟩) hHeld ?_
        case y13 => (intro w hSw; (try dsimp only at hSw); go_simp; try (with_reducible rfl))
        try simp only [Act.put, List.setIfInBounds_toArray, List.set_cons_zero, List.set_cons_succ]
        refine wpAnyH_take (i := 1) (v := ?v14) (by simp only [List.getElem?_toArray, List.getElem?_cons_succ, List.getElem?_cons_zero]; exact rfl) (by kernel_rfl) (by kernel_rfl) (by kernel_rfl) (by intro _ _ _ h; exact h) (Or.inl ⟨by rfl, ?y14⟩) hHeld ?_
        case y14 => (intro w hSw; (try dsimp only at hSw); go_simp; try (with_reducible rfl))
        try simp only [Act.put, List.setIfInBounds_toArray, List.set_cons_zero, List.set_cons_succ]
        refine wpAnyH_take (i := 2) (v := ?v15) (by simp only [List.getElem?_toArray, List.getElem?_cons_succ, List.getElem?_cons_zero]; exact rfl) (by kernel_rfl) (by kernel_rfl) (by kernel_rfl) (by intro _ _ _ h; exact h) (Or.inl ⟨by rfl, ?y15⟩) hHeld ?_
        case y15 => (intro w hSw; (try dsimp only at hSw); go_simp; try (with_reducible rfl))
        try simp only [Act.put, List.setIfInBounds_toArray, List.set_cons_zero, List.set_cons_succ]
        refine wpAnyH_take (i := 3) (v := ?v16) (by simp only [List.getElem?_toArray, List.getElem?_cons_succ, List.getElem?_cons_zero]; exact rfl) (by kernel_rfl) (by kernel_rfl) (by kernel_rfl) (by intro _ _ _ h; exact h) (Or.inl ⟨by rfl, ?y16⟩) hHeld ?_
        case y16 => (intro w hSw; (try dsimp only at hSw); go_simp; try (with_reducible rfl))
        try simp only [Act.put, List.setIfInBounds_toArray, List.set_cons_zero, List.set_cons_succ]
        refine wpAnyH_take (i := 4) (v := ?v17) (by simp only [List.getElem?_toArray, List.getElem?_cons_succ, List.getElem?_cons_zero]; exact rfl) (by kernel_rfl) (by kernel_rfl) (by kernel_rfl) (by intro _ _ _ h; exact h) (Or.inl ⟨by rfl, ?y17⟩) hHeld ?_
        case y17 => (intro w hSw; (try dsimp only at hSw); go_simp; try (with_reducible rfl))
        try simp only [Act.put, List.setIfInBounds_toArray, List.set_cons_zero, List.set_cons_succ]
        refine wpAnyH_take (i := 5) (v := ?v18) (by simp only [List.getElem?_toArray, List.getElem?_cons_succ, List.getElem?_cons_zero]; exact rfl) (by kernel_rfl) (by kernel_rfl) (by kernel_rfl) (by intro _ _ _ h; exact h) (Or.inl ⟨by rfl, ?y18⟩) hHeld ?_
        case y18 => (intro w hSw; (try dsimp only at hSw); go_simp; try (with_reducible rfl))
        try simp only [Act.put, List.setIfInBounds_toArray, List.set_cons_zero, List.set_cons_succ]
        refine wpAnyH_take (i := 6) (v := ?v19) (by simp only [List.getElem?_toArray, List.getElem?_cons_succ, List.getElem?_cons_zero]; exact rfl) (by kernel_rfl) (by kernel_rfl) (by kernel_rfl) (by intro _ _ _ h; exact h) (Or.inl ⟨by rfl, ?y19⟩) hHeld ?_
        case y19 => (intro w hSw; (try dsimp only at hSw); go_simp; try (with_reducible rfl))
        try simp only [Act.put, List.setIfInBounds_toArray, List.set_cons_zero, List.set_cons_succ]
        refine wpAnyH_take (i := 7) (v := ?v20) (by simp only [List.getElem?_toArray, List.getElem?_cons_succ, List.getElem?_cons_zero]; exact rfl) (by kernel_rfl) (by kernel_rfl) (by kernel_rfl) (by intro _ _ _ h; exact h) (Or.inl ⟨by rfl, ?y20⟩) hHeld ?_
        case y20 => (intro w hSw; (try dsimp only at hSw); go_simp; try (with_reducible rfl))
        try simp only [Act.put, List.setIfInBounds_toArray, List.set_cons_zero, List.set_cons_succ]
        refine wpAnyH_take (i := 8) (v := ?v21) (by simp only [List.getElem?_toArray, List.getElem?_cons_succ, List.getElem?_cons_zero]; exact rfl) (by kernel_rfl) (by kernel_rfl) (by kernel_rfl) (by intro _ _ _ h; exact h) (Or.inl ⟨by rfl, ?y21⟩) hHeld ?_
        case y21 => (intro w hSw; (try dsimp only at hSw); go_simp; try (with_reducible rfl))
        try simp only [Act.put, List.setIfInBounds_toArray, List.set_cons_zero, List.set_cons_succ]
        refine wpAnyH_ready (rs := [9]) (by kernel_rfl) (by simp) ?_
        refine AllReadyH.cons (by simp only [List.getElem?_toArray, List.getElem?_cons_succ, List.getElem?_cons_zero]; exact rfl) (fun K hK => ?_) AllReadyH.nil
        go_simp
        refine (HEX.out wd (hq.trans (hbd.mono hq.size))).mono ?_
        rintro e w3 ⟨rfl, hb3⟩
        have hb4 := hbd.trans (hb3.mono hbd.size)
        have e0 := (hb3.cell (cell_lt e0)).trans e0
        have e1 := (hb3.cell (cell_lt e1)).trans e1
        have e2 := (hb3.cell (cell_lt e2)).trans e2
        try dsimp only
        refine hK.out _ _ ?h23 (fun hHeld => ?_)
        case h23 => first | exact ⟨‹_›, ‹_›, ‹_›⟩ | (simp [*, go_sem])
        clear hK K
        try simp only [Act.put, List.setIfInBounds_toArray, List.set_cons_zero, List.set_cons_succ]
        refine wpAnyH_take (i := 10) (v := ?v24) (by simp only [List.getElem?_toArray, List.getElem?_cons_succ, List.getElem?_cons_zero]; exact rfl) (by kernel_rfl) (by kernel_rfl) (by kernel_rfl) (by intro _ _ _ h; exact h) (Or.inl ⟨by rfl, ?y24⟩) hHeld ?_
        case y24 => (intro w hSw; (try dsimp only at hSw); go_simp; try (with_reducible rfl))
        try simp only [Act.put, List.setIfInBounds_toArray, List.set_cons_zero, List.set_cons_succ]
        refine wpAnyH_done (by kernel_rfl) ?_ _
        have hq4 := hq.trans (hb4.mono hq.size)
        go_wp2
        go_roundw
        case rel => exact ⟨k + 1, c + 1, by omega, by go_num, by go_num, by omega, HC2, hq4, e0⟩
        case measure => simp [RowKit.intOf]; omega
set_option maxRecDepth 100000 in
set_option maxHeartbeats 4000000 in
theorem l8Clique_anyC {S S' : Nat → Prop} {v u : Value} {g : List (List Int)} {s : Nat} {w : World} (hg : GOk g) (hv : SlR S w v g) (hu : SlI S' w .i64 u (bitsI s)) (hs : s < 2 ^ g.length) :
    Calls Tryd.prog 106 #[.agg #[v], u] w fun e w' => e = .returned (.bool (clqB (netsL g) s)) ∧ Below w.heap.size w w' := by
  have hq0 : Below w.heap.size w (w.alloc (.cells #[v] 29)) := (Below.refl _ _).alloc (Nat.le_refl _) _
  have hmi := l7Missing_anyC hg (hv.below hq0 (Nat.le_refl _)) (hu.below hq0 (Nat.le_refl _)) hs
  obtain ⟨va, vc, rfl⟩ := hv.slice
  obtain ⟨ua, uc, rfl⟩ := hu.slice
  go_enter Tryd.func106, Tryd.ntmps106
  go_wp2_with fail
  refine hmi.mono ?_
  rintro e w1 ⟨c, rfl, hc, hb1⟩
  have HE := Lib.hid (show ((c : Int) == 0) = clqB (netsL g) s by
    rw [Bool.eq_iff_iff, beq_iff_eq, clqB_iff, ← hc]; omega)
  have HE2 := Lib.hid (show (c == 0) = clqB (netsL g) s by
    rw [Bool.eq_iff_iff, beq_iff_eq, clqB_iff, ← hc])
  clear hc
  go_wp2
  go_ret
  exact ⟨ret_bool (by first | exact HE.out | exact HE2.out), hq0.trans (hb1.mono hq0.size)⟩
set_option maxRecDepth 100000 in
set_option maxHeartbeats 4000000 in
theorem l7Left_anyC {S : Nat → Prop} {v gv : Value} {g : List (List Int)} {x m B : Nat} {w : World} (hg : GOk g) (hv : SlR S w v g) (hx : x < g.length) (hm : m < 2 ^ g.length) (hgo : GonB w B 4 gv g.length m) :
    Calls Tryd.prog 107 #[.agg #[v], .int .i64 (x : Int), gv] w fun e w' => ∃ u, e = .returned u ∧ OwnB w' w.heap.size 2 u (andN ((netsL g).getD x 0) m) ∧ Below w.heap.size w w' := by
  have h16 := hg.hi
  have hm32 : m < 4294967296 := Nat.lt_of_lt_of_le hm (by have := pow_le16 h16; omega)
  have hH := net_lt32 hg x
  have hq0 : Below w.heap.size w ((w.alloc (.cells #[v] 29)).alloc (.cells #[] 2)) := ((Below.refl _ _).alloc (Nat.le_refl _) _).alloc (by simp) _
  obtain ⟨ga, gb, goff, vc, gf, rfl, hgl, hga, hgc⟩ := hv
  obtain ⟨rfl, -⟩ := hga (by omega)
  have c0 : ((w.alloc (.cells #[.slice (some ⟨gb, goff, none⟩) g.length vc] 29)).alloc (.cells #[] 2)).cell? ⟨w.heap.size, 0, none⟩ = some (.slice (some ⟨gb, goff, none⟩) g.length vc) := by simp [go_sem]
  obtain ⟨cb, cc, rfl⟩ := own_some hgo (by omega)
  obtain ⟨hgr0, hrow0⟩ := hgc x hx
  rw [row_bits hg hx, bits_nats] at hrow0
  obtain ⟨rb, ro, rc0, hre0, hrc⟩ := hrow0.at_
  obtain ⟨ra, rc, hre⟩ := hrow0.slice
  rw [hre] at hgr0 hre0
  rw [natsI_len] at hgr0 hre0
  have HRE := Lib.hid (fun h0 => by have := hre0 h0; simp only [Value.slice.injEq] at this; exact this.1)
  have HRC := Lib.hid (fun (i : Nat) (hi : i < (bitsN ((netsL g).getD x 0)).length) (W : World) (hb : Below w.heap.size w W) => show W.cell? ⟨rb, ro + i, none⟩ = some (.int .i64 (((bitsN ((netsL g).getD x 0))[i] : Nat) : Int)) from by
    have h := hrc i (by rw [natsI_len]; exact hi)
    refine ((hb.cell (p := ⟨rb, ro + i, none⟩) (cell_lt h)).trans h).trans ?_
    rw [natsI_get])
  have HGR := Lib.hid (fun (W : World) (hb : Below w.heap.size w W) => (hb.cell (cell_lt hgr0)).trans hgr0)
  have HGO := Lib.hid (fun (i : Nat) (hi : i < g.length) (W : World) (hb : Below w.heap.size w W) => (hb.cell (cell_lt (hgo.cell hi))).trans (hgo.cell hi))
  have HLT := Lib.hid (fun y (hy : y ∈ bitsN ((netsL g).getD x 0)) => show y < g.length from (net_sym hg ((mem_bitsN hH).1 hy)).2.1)
  have hll : (bitsN ((netsL g).getD x 0)).length ≤ 32 := popN_32 _
  have HF := Lib.hid (show (bitsN ((netsL g).getD x 0)).filter (fun y => !m.testBit y) = bitsN (andN ((netsL g).getD x 0) m) by
    unfold bitsN
    rw [List.filter_filter]
    apply List.filter_congr
    intro y _
    rw [testBit_andN hH hm32, Bool.and_comm])
  have hlit : Own ((w.alloc (.cells #[.slice (some ⟨gb, goff, none⟩) g.length vc] 29)).alloc (.cells #[] 2)) (w.heap.size + 1) 2 1 (.slice (some ⟨w.heap.size + 1, 0, none⟩) 0 0) 0 ((natsI []).map (.int .i64)) := by
    have := World.ownsRow_lit (base := w.heap.size + 1) (e := 2) (size := 1) (w.alloc (.cells #[.slice (some ⟨gb, goff, none⟩) g.length vc] 29)) #[] 0 (by simp) (by unfold maxLen; omega) rfl
    simpa [Own, natsI] using this
  clear hgc hgl hga hre hrow0 hre0 hrc hgr0 hgo hH hm
  generalize andN ((netsL g).getD x 0) m = R at *
  generalize hl : bitsN ((netsL g).getD x 0) = l at *
  clear hl
  go_enter Tryd.func107, Tryd.ntmps107
  go_wp2
  go_loopw [7, 8] (fun ov iv wr => ∃ (k : Nat) (L : List Nat), k ≤ l.length ∧ iv = .int .i64 (k : Int) ∧ L.length ≤ k ∧ RowKit.Hid (L = (l.take k).filter fun y => !m.testBit y) ∧ Own wr (w.heap.size + 1) 2 1 ov L.length ((natsI L).map (.int .i64)) ∧ Below w.heap.size w wr ∧ wr.cell? ⟨w.heap.size, 0, none⟩ = some (.slice (some ⟨gb, goff, none⟩) g.length vc)) (fun _ iv _ => l.length - (RowKit.intOf iv).toNat)
  case atStart => exact ⟨0, [], Nat.zero_le _, rfl, by simp, Lib.hid rfl, hlit, hq0, c0⟩
  case round =>
    clear hlit hq0 c0
    obtain ⟨k, L, hk, rfl, hLk, HL, hown, hq, c1⟩ := hrel
    obtain ⟨oa, oc, rfl⟩ := hown.isSlice
    have r0 := HGR.out wr hq
    have hB2 : w.heap.size + 1 ≤ wr.heap.size := cell_lt c1
    by_cases hlt : k < l.length
    case neg =>
      have HE := Lib.hid (show bitsI R = natsI L by rw [HL.out, List.take_of_length_le (by omega), HF.out, bits_nats])
      go_wp2
      go_ret
      refine ⟨_, rfl, ?_, hq⟩
      unfold OwnB
      rw [HE.out, natsI_len]
      exact hown.weak (by omega)
    have hra := HRE.out (by omega)
    subst hra
    have r1 := HRC.out k hlt wr hq
    have HT := Lib.hid (show l.take (k + 1) = l.take k ++ [l[k]] from List.take_succ_eq_append_getElem hlt)
    have hyn := HLT.out l[k] (List.getElem_mem hlt)
    generalize l[k] = y at *
    have r2 := HGO.out y hyn wr hq
    cases hmy : m.testBit y with
    | true =>
      have HL2 : RowKit.Hid (L = (l.take (k + 1)).filter fun y => !m.testBit y) := Lib.hid (by rw [HT.out, List.filter_append, ← HL.out]; simp [hmy])
      rw [hmy] at r2
      clear hmy
      go_wp2
      go_roundw
      case rel => exact ⟨k + 1, L, by omega, by go_num, by omega, HL2, hown, hq, c1⟩
      case measure => simp [RowKit.intOf]; omega
    | false =>
      have HL2 : RowKit.Hid (L ++ [y] = (l.take (k + 1)).filter fun y => !m.testBit y) := Lib.hid (by rw [HT.out, List.filter_append, ← HL.out]; simp [hmy])
      rw [hmy] at r2
      clear hmy
      go_wp2_with (at_builtin; refine wpList_append1 elI64 rfl _ _ rfl hown rfl rfl rfl (by omega) hB2 ?_; intro v' w2 hown2 hkept hmv; have hq2 := hkept.below hq (by omega) (fun b hb => by have := hown.ge b hb; omega); have c2 := (World.cell?_of_block (a := ⟨w.heap.size, 0, none⟩) (hkept.2.2.2.2 w.heap.size (cell_lt c1) (fun e => by have := hown.ge _ e.symm; omega))).trans c1)
      go_roundw
      case rel => exact ⟨k + 1, L ++ [y], by omega, by go_num, by simp; omega, HL2, by simpa [natsI] using hown2, hq2, c2⟩
      case measure => simp [RowKit.intOf]; omega
/-- The vertices before v that are left part it not. -/
def NoSimp (H : List Nat) (left v : Nat) : Prop := ∀ j, j < v → left.testBit j = true → simpB H left j = false
theorem NoSimp.next {H : List Nat} {left v : Nat} (h : NoSimp H left v) (hv : left.testBit v = true → simpB H left v = false) : NoSimp H left (v + 1) := fun j hj hl => by
  by_cases e : j = v
  · subst e; exact hv hl
  · exact h j (by omega) hl
def HoldQ (p : Prop) : Prop := p
theorem hold_inP {p : Prop} (h : HoldQ p) : p := h
def sliceLen : Value → Nat
  | .slice _ n _ => n
  | _ => 0
theorem replicate_gon (n : Nat) : List.replicate n (Value.bool false) = (List.range n).map fun i => Value.bool ((0 : Nat).testBit i) := by
  apply List.ext_getElem
  · simp
  · intro i h1 h2
    simp
theorem elMarksC : Elem Tryd.prog 67 4 1 1 (.bool false) := ⟨Tryd.underlying67, by kernel_rfl, rfl, by omega, by omega⟩
theorem l1SizeC_any {S : Nat → Prop} {v : Value} {g : List (List Int)} {w : World} (hv : SlR S w v g) : Calls Tryd.prog 78 #[.agg #[v]] w fun e w' => e = .returned (.int .i64 (g.length : Int)) ∧ Below w.heap.size w w' := by
  have hq0 : Below w.heap.size w (w.alloc (.cells #[v] 29)) := (Below.refl _ _).alloc (Nat.le_refl _) _
  obtain ⟨va, vc, rfl⟩ := hv.slice
  go_enter Tryd.func78, Tryd.ntmps78
  go_wp2
  go_ret
  exact ⟨rfl, hq0⟩
set_option maxRecDepth 100000 in
set_option maxHeartbeats 8000000 in
theorem specPerfectOrderC_any {S : Nat → Prop} {v : Value} {g : List (List Int)} {w : World} (hv : SlR S w v g) :
    Calls Tryd.prog 81 #[.agg #[v]] w fun e w' => ∃ u, e = .returned (.tuple #[u, .bool (gokB g && (peo (netsL g)).isSome)]) ∧ Below w.heap.size w w' := by
  have hq0 : Below w.heap.size w (w.alloc (.cells #[v] 29)) := (Below.refl _ _).alloc (Nat.le_refl _) _
  have hgo := specGraphOk_any _ _ _ (hv.below hq0 (Nat.le_refl _))
  obtain ⟨va, vc, rfl⟩ := hv.slice
  have c0 : (w.alloc (.cells #[.slice va g.length vc] 29)).cell? ⟨w.heap.size, 0, none⟩ = some (.slice va g.length vc) := by simp [go_sem]
  by_cases hgg : gokB g = true
  case neg =>
    have hg' : gokB g = false := by simpa using hgg
    rw [hg'] at hgo ⊢
    clear hgg hg'
    go_enter Tryd.func81, Tryd.ntmps81
    go_wp2_with fail
    refine hgo.mono ?_
    rintro e w1 ⟨rfl, hb1⟩
    have hq1 := hq0.trans (hb1.mono hq0.size)
    have hq2 := hq1.alloc hq1.size (.cells #[] 2)
    go_wp2
    go_ret2
    exact ⟨_, rfl, hq2⟩
  have hg := gokB_iff.1 hgg
  have h16 := hg.hi
  have hlo := hg.lo
  have hnl := netsL_len g
  have hp16 := pow_le16 h16
  have hH := net_lt32 hg
  have hsy : ∀ x y, ((netsL g).getD x 0).testBit y = true → ((netsL g).getD y 0).testBit x = true := fun _ _ h => (net_sym hg h).2.2.2
  rw [hgg] at hgo ⊢
  rw [Bool.true_and]
  have HSI := Lib.hid (fun (W : World) (hb : Below w.heap.size w W) => l1SizeC_any (hv.below hb (Nat.le_refl _)))
  have HLE := Lib.hid (fun (x m B : Nat) (gv : Value) (W : World) (hb : Below w.heap.size w W) (hx : x < g.length) (hm : m < 2 ^ g.length) (h : GonB W B 4 gv g.length m) => l7Left_anyC hg (hv.below hb (Nat.le_refl _)) hx hm h)
  have HCL := Lib.hid (fun (x m : Nat) (W : World) (hb : Below w.heap.size w W) (S' : Nat → Prop) (u : Value) (hu : SlI S' W .i64 u (bitsI (andN ((netsL g).getD x 0) m))) => l8Clique_anyC hg (hv.below hb (Nat.le_refl _)) hu (Nat.lt_of_le_of_lt (andN_le _ _) (net_lt hg x)))
  have HSC := Lib.hid (fun (x m : Nat) (hm : m < 2 ^ g.length) => show clqB (netsL g) (andN ((netsL g).getD x 0) m) = simpB (netsL g) (andN (firstN g.length) m) x from by
    rw [simp_clq hH hsy]
    congr 1
    apply nat_ext
    intro i
    rw [testBit_andN (hH x) (by omega), Nat.testBit_and, testBit_andN (by have := firstN_lt h16; omega) (by omega), testBit_firstN]
    cases h : ((netsL g).getD x 0).testBit i
    · rfl
    · have := (net_sym hg h).2.1
      simp [this])
  have HLF := Lib.hid (fun (m i : Nat) (hm : m < 2 ^ g.length) => show (andN (firstN g.length) m).testBit i = true ↔ i < g.length ∧ m.testBit i = false from by
    rw [testBit_andN (by have := firstN_lt h16; omega) (by omega), testBit_firstN, Bool.and_eq_true, Bool.not_eq_true', decide_eq_true_eq])
  have HST := Lib.hid (show peo (netsL g) = peoF (netsL g) (g.length - 0) (andN (firstN g.length) 0) [] from by
    unfold peo
    rw [hnl, Nat.sub_zero]
    congr 1
    apply nat_ext
    intro i
    rw [testBit_andN (by have := firstN_lt h16; omega) (by omega)]
    simp)
  have HP0 := Lib.hid (show popN (andN (firstN g.length) 0) + 0 = g.length from by
    have e : andN (firstN g.length) 0 = firstN g.length := by
      apply nat_ext
      intro i
      rw [testBit_andN (by have := firstN_lt h16; omega) (by omega)]
      simp
    rw [e, Nat.add_zero]
    have h1 : ∀ n, n ≤ 32 → popN (firstN n) = n := by
      intro n hn
      induction n with
      | zero => exact (popN_zero (by decide)).2 rfl
      | succ n ih =>
        have e2 : firstN (n + 1) = firstN n ||| bit n := by
          apply nat_ext
          intro i
          rw [Nat.testBit_or, testBit_firstN, testBit_firstN, testBit_bit, Bool.eq_iff_iff, Bool.or_eq_true, decide_eq_true_eq, decide_eq_true_eq, decide_eq_true_eq]
          omega
        have h3 : firstN n < 4294967296 := Nat.lt_of_lt_of_le (show firstN n < 2 ^ n by unfold firstN; have := Nat.two_pow_pos n; omega) (Nat.pow_le_pow_right (by omega) (show n ≤ 32 by omega))
        rw [e2, popN_add h3 (by omega) (by rw [testBit_firstN]; simp), ih (by omega)]
    exact h1 _ (by omega))
  have hmk := run_make_row' (P := Tryd.prog) 67 4 (.bool false) 1 elMarksC.ht elMarksC.hi rfl .i64 .i64 g.length (by omega) (by omega)
  clear hgg hg hH hsy hnl hp16
  go_enter Tryd.func81, Tryd.ntmps81
  go_wp2_with fail
  refine hgo.mono ?_
  rintro e w1 ⟨rfl, hb1⟩
  have hq1 := hq0.trans (hb1.mono hq0.size)
  have c1 := (hb1.cell (cell_lt c0)).trans c0
  clear hgo hq0 c0 hb1
  go_wp2_with fail
  refine (HSI.out w1 hq1).mono ?_
  rintro e w2 ⟨rfl, hb2⟩
  have hq2 := hq1.trans (hb2.mono hq1.size)
  have c2 := (hb2.cell (cell_lt c1)).trans c1
  have hz2 : w.heap.size < w2.heap.size := cell_lt c2
  have hG0 : GonB ((w2.alloc (.cells (madeCells #[Value.bool false] g.length) 4)).alloc (.cells #[] 2)) w2.heap.size 4 (.slice (some ⟨w2.heap.size, 0, none⟩) g.length g.length) g.length 0 := by
    have h := Own.made w2 w2.heap.size 4 (.bool false) g.length (Nat.le_refl _) (by omega)
    rw [replicate_gon] at h
    exact h.alloc _
  have hlit : Own ((w2.alloc (.cells (madeCells #[Value.bool false] g.length) 4)).alloc (.cells #[] 2)) (w2.heap.size + 1) 2 1 (.slice (some ⟨w2.heap.size + 1, 0, none⟩) 0 0) 0 ((natsI []).map (.int .i64)) := by
    have := World.ownsRow_lit (base := w2.heap.size + 1) (e := 2) (size := 1) (w2.alloc (.cells (madeCells #[Value.bool false] g.length) 4)) #[] 0 (by simp) (by unfold maxLen; omega) rfl
    simpa [Own, natsI] using this
  have hqa : Below w2.heap.size w2 ((w2.alloc (.cells (madeCells #[Value.bool false] g.length) 4)).alloc (.cells #[] 2)) := ((Below.refl _ _).alloc (Nat.le_refl _) _).alloc (by simp) _
  have hq3 := hq2.trans (hqa.mono hq2.size)
  have c3 := (hqa.cell (cell_lt c2)).trans c2
  clear hq1 c1 hb2 hq2 c2 hqa
  go_wp2
  go_loopw [5] (fun ov wr => ∃ (r : List Nat) (m : Nat), r.length ≤ g.length ∧ m < 2 ^ g.length ∧ popN (andN (firstN g.length) m) + r.length = g.length ∧ RowKit.Hid (peo (netsL g) = peoF (netsL g) (g.length - r.length) (andN (firstN g.length) m) r) ∧ GonB wr w2.heap.size 4 (.slice (some ⟨w2.heap.size, 0, none⟩) g.length g.length) g.length m ∧ Own wr (w2.heap.size + 1) 2 1 ov r.length ((natsI r).map (.int .i64)) ∧ Below w.heap.size w wr ∧ wr.cell? ⟨w.heap.size, 0, none⟩ = some (.slice va g.length vc)) (fun ov _ => g.length - sliceLen ov)
  case atStart => exact ⟨[], 0, Nat.zero_le _, Nat.two_pow_pos _, HP0.out, HST, hG0, hlit, hq3, c3⟩
  case round =>
    clear hG0 hlit hq3 c3 HP0 HST
    obtain ⟨r, m, hr, hm, hpop, HPE, hG, hown, hq, c1⟩ := hrel
    obtain ⟨oa, oc, rfl⟩ := hown.isSlice
    obtain ⟨wo, rfl⟩ : ∃ x : World, x = wr := ⟨_, rfl⟩
    have hsz0 := HSI.out wo hq
    go_wp2_with fail
    refine hsz0.mono ?_
    rintro e w5 ⟨rfl, hb5⟩
    have hq := hq.trans (hb5.mono hq.size)
    have hG := hG.below hb5 (Nat.le_refl _)
    have hown := hown.below hb5 (Nat.le_refl _)
    have c1 := (hb5.cell (cell_lt c1)).trans c1
    clear hsz0 hb5
    by_cases hlt : r.length < g.length
    case neg =>
      have hre : r.length = g.length := by omega
      have HS := Lib.hid (show (peo (netsL g)).isSome = true by
        rw [HPE.out, hre, Nat.sub_self]; rfl)
      clear hre
      go_wp2
      go_ret2
      exact ⟨_, by rw [HS.out]; rfl, hq⟩
    have HN0 : RowKit.Hid (NoSimp (netsL g) (andN (firstN g.length) m) 0) := Lib.hid (fun j hj => by omega)
    go_wp2
    go_loopw [6] (fun vv wr => ∃ v : Nat, v ≤ g.length ∧ vv = .int .i64 (v : Int) ∧ RowKit.Hid (NoSimp (netsL g) (andN (firstN g.length) m) v) ∧ GonB wr w2.heap.size 4 (.slice (some ⟨w2.heap.size, 0, none⟩) g.length g.length) g.length m ∧ Own wr (w2.heap.size + 1) 2 1 (.slice oa r.length oc) r.length ((natsI r).map (.int .i64)) ∧ Below w.heap.size w wr ∧ wr.cell? ⟨w.heap.size, 0, none⟩ = some (.slice va g.length vc)) (fun vv _ => g.length - (RowKit.intOf vv).toNat)
    case atStart => exact ⟨0, Nat.zero_le _, rfl, HN0, hG, hown, hq, c1⟩
    case round =>
      clear HN0 hG hown hq c1
      obtain ⟨v, hv, rfl, HN, hG, hown, hq, c1⟩ := hrel
      have hneq : ∀ a b : Nat, a ≠ b → (((a : Nat) : Int) == ((b : Nat) : Int)) = false := fun a b h => by rw [beq_eq_false_iff_ne]; omega
      by_cases hvn : v < g.length
      case neg =>
        have hve : v = g.length := by omega
        have HNO := Lib.hid (show (peo (netsL g)).isSome = false by
          have hl := HLF.out m
          obtain ⟨d, hd⟩ : ∃ d, g.length - r.length = d + 1 := ⟨g.length - r.length - 1, by omega⟩
          rw [HPE.out, hd, peoF_noneC (Nat.lt_of_le_of_lt (andN_le _ _) (by have := firstN_lt h16; omega)) (fun e => by rw [e] at hpop; rw [(popN_zero (by omega)).2 rfl] at hpop; omega) (fun j hj => HN.out j (by rw [hve]; exact ((hl j hm).1 hj).1) hj)]; rfl)
        have hd1 : decide ((v : Int) < (g.length : Int)) = false := decide_eq_false (by omega)
        have hd2 : decide (v < g.length) = false := decide_eq_false hvn
        have heq1 : ((v : Int) == (g.length : Int)) = true := by rw [beq_iff_eq]; omega
        have heq2 : (v == g.length) = true := by rw [beq_iff_eq]; exact hve
        clear hve
        go_wp2
        refine wp_region_held_drew (S := (fun w' => w'.cell? ⟨w.heap.size, 0, none⟩ = some (.slice va g.length vc))) (by kernel_rfl) ?_ (fun hHeld => ?_)
        · first | exact ‹_› | (simp [*, go_sem])
        have hbd : Below wr.heap.size wr wr.drew := ((Drawn.refl _).drew).below _
        generalize wr.drew = wd at hbd hHeld ⊢
        have e0 := hHeld
        refine wpAnyH_take (i := 0) (v := ?v25) (by simp only [List.getElem?_toArray, List.getElem?_cons_zero]; exact rfl) (by kernel_rfl) (by kernel_rfl) (by kernel_rfl) (by intro _ _ _ h; exact h) (Or.inl ⟨by rfl, ?y25⟩) hHeld ?_
        case y25 => (intro w hSw; (try dsimp only at hSw); go_simp; try (with_reducible rfl))
        try simp only [Act.put, List.setIfInBounds_toArray, List.set_cons_zero, List.set_cons_succ]
        refine wpAnyH_take (i := 1) (v := ?v26) (by simp only [List.getElem?_toArray, List.getElem?_cons_succ, List.getElem?_cons_zero]; exact rfl) (by kernel_rfl) (by kernel_rfl) (by kernel_rfl) (by intro _ _ _ h; exact h) (Or.inl ⟨by rfl, ?y26⟩) hHeld ?_
        case y26 => (intro w hSw; (try dsimp only at hSw); go_simp; try (with_reducible rfl))
        try simp only [Act.put, List.setIfInBounds_toArray, List.set_cons_zero, List.set_cons_succ]
        refine wpAnyH_ready (rs := [2]) (by kernel_rfl) (by simp) ?_
        refine AllReadyH.cons (by simp only [List.getElem?_toArray, List.getElem?_cons_succ, List.getElem?_cons_zero]; exact rfl) (fun K hK => ?_) AllReadyH.nil
        go_simp
        refine (HSI.out wd (hq.trans (hbd.mono hq.size))).mono ?_
        rintro e w5 ⟨rfl, hb5⟩
        have hbd := hbd.trans (hb5.mono hbd.size)
        have e0 := (hb5.cell (cell_lt e0)).trans e0
        obtain ⟨wd, rfl⟩ : ∃ x, x = w5 := ⟨_, rfl⟩
        try dsimp only
        refine hK.out _ _ ?h28 (fun hHeld => ?_)
        case h28 => first | exact ‹_› | (simp [*, go_sem])
        clear hK K
        try simp only [Act.put, List.setIfInBounds_toArray, List.set_cons_zero, List.set_cons_succ]
        refine wpAnyH_take (i := 3) (v := ?v29) (by simp only [List.getElem?_toArray, List.getElem?_cons_succ, List.getElem?_cons_zero]; exact rfl) (by kernel_rfl) (by kernel_rfl) (by kernel_rfl) (by intro _ _ _ h; exact h) (Or.inl ⟨by rfl, ?y29⟩) hHeld ?_
        case y29 => (intro w hSw; (try dsimp only at hSw); go_simp; try (with_reducible rfl))
        try simp only [Act.put, List.setIfInBounds_toArray, List.set_cons_zero, List.set_cons_succ]
        refine wpAnyH_take (i := 4) (v := ?v30) (by simp only [List.getElem?_toArray, List.getElem?_cons_succ, List.getElem?_cons_zero]; exact rfl) (by kernel_rfl) (by kernel_rfl) (by kernel_rfl) (by intro _ _ _ h; exact h) (Or.inl ⟨by rfl, ?y30⟩) hHeld ?_
        case y30 => (intro w hSw; (try dsimp only at hSw); go_simp; try (with_reducible rfl))
        try simp only [Act.put, List.setIfInBounds_toArray, List.set_cons_zero, List.set_cons_succ]
        refine wpAnyH_take (i := 5) (by simp only [List.getElem?_toArray, List.getElem?_cons_succ, List.getElem?_cons_zero]; exact rfl) (by kernel_rfl) (by kernel_rfl) (by kernel_rfl) (by intro _ _ _ h; exact h) (Or.inr ⟨by rfl, rfl⟩) hHeld ?_
        try simp only [Act.put, List.setIfInBounds_toArray, List.set_cons_zero, List.set_cons_succ]
        refine wpAnyH_take (i := 6) (by simp only [List.getElem?_toArray, List.getElem?_cons_succ, List.getElem?_cons_zero]; exact rfl) (by kernel_rfl) (by kernel_rfl) (by kernel_rfl) (by intro _ _ _ h; exact h) (Or.inr ⟨by rfl, rfl⟩) hHeld ?_
        try simp only [Act.put, List.setIfInBounds_toArray, List.set_cons_zero, List.set_cons_succ]
        refine wpAnyH_take (i := 7) (by simp only [List.getElem?_toArray, List.getElem?_cons_succ, List.getElem?_cons_zero]; exact rfl) (by kernel_rfl) (by kernel_rfl) (by kernel_rfl) (by intro _ _ _ h; exact h) (Or.inr ⟨by rfl, rfl⟩) hHeld ?_
        try simp only [Act.put, List.setIfInBounds_toArray, List.set_cons_zero, List.set_cons_succ]
        refine wpAnyH_take (i := 8) (by simp only [List.getElem?_toArray, List.getElem?_cons_succ, List.getElem?_cons_zero]; exact rfl) (by kernel_rfl) (by kernel_rfl) (by kernel_rfl) (by intro _ _ _ h; exact h) (Or.inr ⟨by rfl, rfl⟩) hHeld ?_
        try simp only [Act.put, List.setIfInBounds_toArray, List.set_cons_zero, List.set_cons_succ]
        refine wpAnyH_take (i := 9) (by simp only [List.getElem?_toArray, List.getElem?_cons_succ, List.getElem?_cons_zero]; exact rfl) (by kernel_rfl) (by kernel_rfl) (by kernel_rfl) (by intro _ _ _ h; exact h) (Or.inr ⟨by rfl, rfl⟩) hHeld ?_
        try simp only [Act.put, List.setIfInBounds_toArray, List.set_cons_zero, List.set_cons_succ]
        refine wpAnyH_take (i := 10) (by simp only [List.getElem?_toArray, List.getElem?_cons_succ, List.getElem?_cons_zero]; exact rfl) (by kernel_rfl) (by kernel_rfl) (by kernel_rfl) (by intro _ _ _ h; exact h) (Or.inr ⟨by rfl, rfl⟩) hHeld ?_
        try simp only [Act.put, List.setIfInBounds_toArray, List.set_cons_zero, List.set_cons_succ]
        refine wpAnyH_take (i := 11) (by simp only [List.getElem?_toArray, List.getElem?_cons_succ, List.getElem?_cons_zero]; exact rfl) (by kernel_rfl) (by kernel_rfl) (by kernel_rfl) (by intro _ _ _ h; exact h) (Or.inr ⟨by rfl, rfl⟩) hHeld ?_
        try simp only [Act.put, List.setIfInBounds_toArray, List.set_cons_zero, List.set_cons_succ]
        refine wpAnyH_take (i := 12) (by simp only [List.getElem?_toArray, List.getElem?_cons_succ, List.getElem?_cons_zero]; exact rfl) (by kernel_rfl) (by kernel_rfl) (by kernel_rfl) (by intro _ _ _ h; exact h) (Or.inr ⟨by rfl, rfl⟩) hHeld ?_
        try simp only [Act.put, List.setIfInBounds_toArray, List.set_cons_zero, List.set_cons_succ]
        refine wpAnyH_take (i := 13) (by simp only [List.getElem?_toArray, List.getElem?_cons_succ, List.getElem?_cons_zero]; exact rfl) (by kernel_rfl) (by kernel_rfl) (by kernel_rfl) (by intro _ _ _ h; exact h) (Or.inr ⟨by rfl, rfl⟩) hHeld ?_
        try simp only [Act.put, List.setIfInBounds_toArray, List.set_cons_zero, List.set_cons_succ]
        refine wpAnyH_take (i := 14) (by simp only [List.getElem?_toArray, List.getElem?_cons_succ, List.getElem?_cons_zero]; exact rfl) (by kernel_rfl) (by kernel_rfl) (by kernel_rfl) (by intro _ _ _ h; exact h) (Or.inr ⟨by rfl, rfl⟩) hHeld ?_
        try simp only [Act.put, List.setIfInBounds_toArray, List.set_cons_zero, List.set_cons_succ]
        refine wpAnyH_take (i := 15) (by simp only [List.getElem?_toArray, List.getElem?_cons_succ, List.getElem?_cons_zero]; exact rfl) (by kernel_rfl) (by kernel_rfl) (by kernel_rfl) (by intro _ _ _ h; exact h) (Or.inr ⟨by rfl, rfl⟩) hHeld ?_
        try simp only [Act.put, List.setIfInBounds_toArray, List.set_cons_zero, List.set_cons_succ]
        refine wpAnyH_take (i := 16) (by simp only [List.getElem?_toArray, List.getElem?_cons_succ, List.getElem?_cons_zero]; exact rfl) (by kernel_rfl) (by kernel_rfl) (by kernel_rfl) (by intro _ _ _ h; exact h) (Or.inr ⟨by rfl, rfl⟩) hHeld ?_
        try simp only [Act.put, List.setIfInBounds_toArray, List.set_cons_zero, List.set_cons_succ]
        refine wpAnyH_take (i := 17) (by simp only [List.getElem?_toArray, List.getElem?_cons_succ, List.getElem?_cons_zero]; exact rfl) (by kernel_rfl) (by kernel_rfl) (by kernel_rfl) (by intro _ _ _ h; exact h) (Or.inr ⟨by rfl, rfl⟩) hHeld ?_
        try simp only [Act.put, List.setIfInBounds_toArray, List.set_cons_zero, List.set_cons_succ]
        refine wpAnyH_take (i := 18) (v := ?v44) (by simp only [List.getElem?_toArray, List.getElem?_cons_succ, List.getElem?_cons_zero]; exact rfl) (by kernel_rfl) (by kernel_rfl) (by kernel_rfl) (by intro _ _ _ h; exact h) (Or.inl ⟨by rfl, ?y44⟩) hHeld ?_
        case y44 => (intro w hSw; (try dsimp only at hSw); go_simp; try (with_reducible rfl))
        try simp only [Act.put, List.setIfInBounds_toArray, List.set_cons_zero, List.set_cons_succ]
        refine wpAnyH_done (by kernel_rfl) ?_ _
        have hqd := hq.trans (hbd.mono hq.size)
        have hGd := hG.below hbd (Nat.le_refl _)
        have hod := hown.below hbd (Nat.le_refl _)
        clear hHeld hG hown hq
        have hszd := HSI.out wd hqd
        go_wp2_with fail
        refine hszd.mono ?_
        rintro e w6 ⟨rfl, hb6⟩
        have hq6 := hqd.trans (hb6.mono hqd.size)
        have hq7 := hq6.alloc hq6.size (.cells #[] 2)
        go_wp2
        go_ret2
        exact ⟨_, by rw [HNO.out]; rfl, hq7⟩
      have hd1 : decide ((v : Int) < (g.length : Int)) = true := decide_eq_true (by omega)
      have hgc := GonB.cell hG hvn
      cases hmv : m.testBit v with
      | true =>
        have HN2 := Lib.hid (HN.out.next (fun h => by have := ((HLF.out m v hm).1 h).2; rw [hmv] at this; cases this))
        rw [hmv] at hgc
        clear hmv
        go_wp2
        refine wp_region_held_drew (S := (fun w' => w'.cell? ⟨w.heap.size, 0, none⟩ = some (.slice va g.length vc) ∧ w'.cell? ⟨w2.heap.size, v, none⟩ = some (.bool true))) (by kernel_rfl) ?_ (fun hHeld => ?_)
        · first | exact ⟨‹_›, ‹_›⟩ | (simp [*, go_sem])
        have hbd : Below wr.heap.size wr wr.drew := ((Drawn.refl _).drew).below _
        generalize wr.drew = wd at hbd hHeld ⊢
        have hH2 := hHeld
        obtain ⟨e0, e1⟩ := hH2
        refine wpAnyH_take (i := 0) (v := ?v45) (by simp only [List.getElem?_toArray, List.getElem?_cons_zero]; exact rfl) (by kernel_rfl) (by kernel_rfl) (by kernel_rfl) (by intro _ _ _ h; exact h) (Or.inl ⟨by rfl, ?y45⟩) hHeld ?_
        case y45 => (intro w hSw; (try dsimp only at hSw); go_simp; try (with_reducible rfl))
        try simp only [Act.put, List.setIfInBounds_toArray, List.set_cons_zero, List.set_cons_succ]
        refine wpAnyH_take (i := 1) (v := ?v46) (by simp only [List.getElem?_toArray, List.getElem?_cons_succ, List.getElem?_cons_zero]; exact rfl) (by kernel_rfl) (by kernel_rfl) (by kernel_rfl) (by intro _ _ _ h; exact h) (Or.inl ⟨by rfl, ?y46⟩) hHeld ?_
        case y46 => (intro w hSw; (try dsimp only at hSw); go_simp; try (with_reducible rfl))
        try simp only [Act.put, List.setIfInBounds_toArray, List.set_cons_zero, List.set_cons_succ]
        refine wpAnyH_ready (rs := [2]) (by kernel_rfl) (by simp) ?_
        refine AllReadyH.cons (by simp only [List.getElem?_toArray, List.getElem?_cons_succ, List.getElem?_cons_zero]; exact rfl) (fun K hK => ?_) AllReadyH.nil
        go_simp
        refine (HSI.out wd (hq.trans (hbd.mono hq.size))).mono ?_
        rintro e w5 ⟨rfl, hb5⟩
        have hbd := hbd.trans (hb5.mono hbd.size)
        have e0 := (hb5.cell (cell_lt e0)).trans e0
        have e1 := (hb5.cell (cell_lt e1)).trans e1
        obtain ⟨wd, rfl⟩ : ∃ x, x = w5 := ⟨_, rfl⟩
        try dsimp only
        refine hK.out _ _ ?h48 (fun hHeld => ?_)
        case h48 => first | exact ⟨‹_›, ‹_›⟩ | (simp [*, go_sem])
        clear hK K
        try simp only [Act.put, List.setIfInBounds_toArray, List.set_cons_zero, List.set_cons_succ]
        refine wpAnyH_take (i := 3) (v := ?v49) (by simp only [List.getElem?_toArray, List.getElem?_cons_succ, List.getElem?_cons_zero]; exact rfl) (by kernel_rfl) (by kernel_rfl) (by kernel_rfl) (by intro _ _ _ h; exact h) (Or.inl ⟨by rfl, ?y49⟩) hHeld ?_
        case y49 => (intro w hSw; (try dsimp only at hSw); go_simp; try (with_reducible rfl))
        try simp only [Act.put, List.setIfInBounds_toArray, List.set_cons_zero, List.set_cons_succ]
        refine wpAnyH_take (i := 4) (v := ?v50) (by simp only [List.getElem?_toArray, List.getElem?_cons_succ, List.getElem?_cons_zero]; exact rfl) (by kernel_rfl) (by kernel_rfl) (by kernel_rfl) (by intro _ _ _ h; exact h) (Or.inl ⟨by rfl, ?y50⟩) hHeld ?_
        case y50 => (intro w hSw; (try dsimp only at hSw); go_simp; try (with_reducible rfl))
        try simp only [Act.put, List.setIfInBounds_toArray, List.set_cons_zero, List.set_cons_succ]
        refine wpAnyH_take (i := 5) (v := ?v51) (by simp only [List.getElem?_toArray, List.getElem?_cons_succ, List.getElem?_cons_zero]; exact rfl) (by kernel_rfl) (by kernel_rfl) (by kernel_rfl) (by intro _ _ _ h; exact h) (Or.inl ⟨by rfl, ?y51⟩) hHeld ?_
        case y51 => (intro w hSw; (try dsimp only at hSw); go_simp; try (with_reducible rfl))
        try simp only [Act.put, List.setIfInBounds_toArray, List.set_cons_zero, List.set_cons_succ]
        refine wpAnyH_take (i := 6) (v := ?v52) (by simp only [List.getElem?_toArray, List.getElem?_cons_succ, List.getElem?_cons_zero]; exact rfl) (by kernel_rfl) (by kernel_rfl) (by kernel_rfl) (by intro _ _ _ h; exact h) (Or.inl ⟨by rfl, ?y52⟩) hHeld ?_
        case y52 => (intro w hSw; (try dsimp only at hSw); go_simp; try (with_reducible rfl))
        try simp only [Act.put, List.setIfInBounds_toArray, List.set_cons_zero, List.set_cons_succ]
        refine wpAnyH_take (i := 7) (v := ?v53) (by simp only [List.getElem?_toArray, List.getElem?_cons_succ, List.getElem?_cons_zero]; exact rfl) (by kernel_rfl) (by kernel_rfl) (by kernel_rfl) (by intro _ _ _ h; exact h) (Or.inl ⟨by rfl, ?y53⟩) hHeld ?_
        case y53 => (intro w hSw; (try dsimp only at hSw); go_simp; try (with_reducible rfl))
        try simp only [Act.put, List.setIfInBounds_toArray, List.set_cons_zero, List.set_cons_succ]
        refine wpAnyH_take (i := 8) (v := ?v54) (by simp only [List.getElem?_toArray, List.getElem?_cons_succ, List.getElem?_cons_zero]; exact rfl) (by kernel_rfl) (by kernel_rfl) (by kernel_rfl) (by intro _ _ _ h; exact h) (Or.inl ⟨by rfl, ?y54⟩) hHeld ?_
        case y54 => (intro w hSw; (try dsimp only at hSw); go_simp; try (with_reducible rfl))
        try simp only [Act.put, List.setIfInBounds_toArray, List.set_cons_zero, List.set_cons_succ]
        refine wpAnyH_take (i := 9) (v := ?v55) (by simp only [List.getElem?_toArray, List.getElem?_cons_succ, List.getElem?_cons_zero]; exact rfl) (by kernel_rfl) (by kernel_rfl) (by kernel_rfl) (by intro _ _ _ h; exact h) (Or.inl ⟨by rfl, ?y55⟩) hHeld ?_
        case y55 => (intro w hSw; (try dsimp only at hSw); go_simp; try (with_reducible rfl))
        try simp only [Act.put, List.setIfInBounds_toArray, List.set_cons_zero, List.set_cons_succ]
        refine wpAnyH_take (i := 10) (by simp only [List.getElem?_toArray, List.getElem?_cons_succ, List.getElem?_cons_zero]; exact rfl) (by kernel_rfl) (by kernel_rfl) (by kernel_rfl) (by intro _ _ _ h; exact h) (Or.inr ⟨by rfl, rfl⟩) hHeld ?_
        try simp only [Act.put, List.setIfInBounds_toArray, List.set_cons_zero, List.set_cons_succ]
        refine wpAnyH_take (i := 11) (by simp only [List.getElem?_toArray, List.getElem?_cons_succ, List.getElem?_cons_zero]; exact rfl) (by kernel_rfl) (by kernel_rfl) (by kernel_rfl) (by intro _ _ _ h; exact h) (Or.inr ⟨by rfl, rfl⟩) hHeld ?_
        try simp only [Act.put, List.setIfInBounds_toArray, List.set_cons_zero, List.set_cons_succ]
        refine wpAnyH_take (i := 12) (by simp only [List.getElem?_toArray, List.getElem?_cons_succ, List.getElem?_cons_zero]; exact rfl) (by kernel_rfl) (by kernel_rfl) (by kernel_rfl) (by intro _ _ _ h; exact h) (Or.inr ⟨by rfl, rfl⟩) hHeld ?_
        try simp only [Act.put, List.setIfInBounds_toArray, List.set_cons_zero, List.set_cons_succ]
        refine wpAnyH_take (i := 13) (by simp only [List.getElem?_toArray, List.getElem?_cons_succ, List.getElem?_cons_zero]; exact rfl) (by kernel_rfl) (by kernel_rfl) (by kernel_rfl) (by intro _ _ _ h; exact h) (Or.inr ⟨by rfl, rfl⟩) hHeld ?_
        try simp only [Act.put, List.setIfInBounds_toArray, List.set_cons_zero, List.set_cons_succ]
        refine wpAnyH_take (i := 14) (by simp only [List.getElem?_toArray, List.getElem?_cons_succ, List.getElem?_cons_zero]; exact rfl) (by kernel_rfl) (by kernel_rfl) (by kernel_rfl) (by intro _ _ _ h; exact h) (Or.inr ⟨by rfl, rfl⟩) hHeld ?_
        try simp only [Act.put, List.setIfInBounds_toArray, List.set_cons_zero, List.set_cons_succ]
        refine wpAnyH_take (i := 15) (by simp only [List.getElem?_toArray, List.getElem?_cons_succ, List.getElem?_cons_zero]; exact rfl) (by kernel_rfl) (by kernel_rfl) (by kernel_rfl) (by intro _ _ _ h; exact h) (Or.inr ⟨by rfl, rfl⟩) hHeld ?_
        try simp only [Act.put, List.setIfInBounds_toArray, List.set_cons_zero, List.set_cons_succ]
        refine wpAnyH_take (i := 16) (by simp only [List.getElem?_toArray, List.getElem?_cons_succ, List.getElem?_cons_zero]; exact rfl) (by kernel_rfl) (by kernel_rfl) (by kernel_rfl) (by intro _ _ _ h; exact h) (Or.inr ⟨by rfl, rfl⟩) hHeld ?_
        try simp only [Act.put, List.setIfInBounds_toArray, List.set_cons_zero, List.set_cons_succ]
        refine wpAnyH_take (i := 17) (v := ?v63) (by simp only [List.getElem?_toArray, List.getElem?_cons_succ, List.getElem?_cons_zero]; exact rfl) (by kernel_rfl) (by kernel_rfl) (by kernel_rfl) (by intro _ _ _ h; exact h) (Or.inl ⟨by rfl, ?y63⟩) hHeld ?_
        case y63 => (intro w hSw; (try dsimp only at hSw); go_simp; try (with_reducible rfl))
        try simp only [Act.put, List.setIfInBounds_toArray, List.set_cons_zero, List.set_cons_succ]
        refine wpAnyH_take (i := 18) (v := ?v64) (by simp only [List.getElem?_toArray, List.getElem?_cons_succ, List.getElem?_cons_zero]; exact rfl) (by kernel_rfl) (by kernel_rfl) (by kernel_rfl) (by intro _ _ _ h; exact h) (Or.inl ⟨by rfl, ?y64⟩) hHeld ?_
        case y64 => (intro w hSw; (try dsimp only at hSw); go_simp; try (with_reducible rfl))
        try simp only [Act.put, List.setIfInBounds_toArray, List.set_cons_zero, List.set_cons_succ]
        refine wpAnyH_done (by kernel_rfl) ?_ _
        have hqd := hq.trans (hbd.mono hq.size)
        have hGd := hG.below hbd (Nat.le_refl _)
        have hod := hown.below hbd (Nat.le_refl _)
        go_wp2
        go_roundw
        case rel => exact ⟨v + 1, by omega, by go_num, HN2, hGd, hod, hqd, e0⟩
        case measure => simp [RowKit.intOf]; omega
      | false =>
        rw [hmv] at hgc
        cases hsi : simpB (netsL g) (andN (firstN g.length) m) v with
        | false =>
          have HN2 := Lib.hid (HN.out.next (fun _ => hsi))
          clear hmv
          go_wp2
          refine wp_region_held_drew (S := (fun w' => w'.cell? ⟨w.heap.size, 0, none⟩ = some (.slice va g.length vc) ∧ w'.cell? ⟨w2.heap.size, v, none⟩ = some (.bool false))) (by kernel_rfl) ?_ (fun hHeld => ?_)
          · first | exact ⟨‹_›, ‹_›⟩ | (simp [*, go_sem])
          have hbd : Below wr.heap.size wr wr.drew := ((Drawn.refl _).drew).below _
          generalize wr.drew = wd at hbd hHeld ⊢
          have hH2 := hHeld
          obtain ⟨e0, e1⟩ := hH2
          refine wpAnyH_take (i := 0) (v := ?v65) (by simp only [List.getElem?_toArray, List.getElem?_cons_zero]; exact rfl) (by kernel_rfl) (by kernel_rfl) (by kernel_rfl) (by intro _ _ _ h; exact h) (Or.inl ⟨by rfl, ?y65⟩) hHeld ?_
          case y65 => (intro w hSw; (try dsimp only at hSw); go_simp; try (with_reducible rfl))
          try simp only [Act.put, List.setIfInBounds_toArray, List.set_cons_zero, List.set_cons_succ]
          refine wpAnyH_take (i := 1) (v := ?v66) (by simp only [List.getElem?_toArray, List.getElem?_cons_succ, List.getElem?_cons_zero]; exact rfl) (by kernel_rfl) (by kernel_rfl) (by kernel_rfl) (by intro _ _ _ h; exact h) (Or.inl ⟨by rfl, ?y66⟩) hHeld ?_
          case y66 => (intro w hSw; (try dsimp only at hSw); go_simp; try (with_reducible rfl))
          try simp only [Act.put, List.setIfInBounds_toArray, List.set_cons_zero, List.set_cons_succ]
          refine wpAnyH_ready (rs := [2]) (by kernel_rfl) (by simp) ?_
          refine AllReadyH.cons (by simp only [List.getElem?_toArray, List.getElem?_cons_succ, List.getElem?_cons_zero]; exact rfl) (fun K hK => ?_) AllReadyH.nil
          go_simp
          refine (HSI.out wd (hq.trans (hbd.mono hq.size))).mono ?_
          rintro e w5 ⟨rfl, hb5⟩
          have hbd := hbd.trans (hb5.mono hbd.size)
          have e0 := (hb5.cell (cell_lt e0)).trans e0
          have e1 := (hb5.cell (cell_lt e1)).trans e1
          obtain ⟨wd, rfl⟩ : ∃ x, x = w5 := ⟨_, rfl⟩
          try dsimp only
          refine hK.out _ _ ?h68 (fun hHeld => ?_)
          case h68 => first | exact ⟨‹_›, ‹_›⟩ | (simp [*, go_sem])
          clear hK K
          try simp only [Act.put, List.setIfInBounds_toArray, List.set_cons_zero, List.set_cons_succ]
          refine wpAnyH_take (i := 3) (v := ?v69) (by simp only [List.getElem?_toArray, List.getElem?_cons_succ, List.getElem?_cons_zero]; exact rfl) (by kernel_rfl) (by kernel_rfl) (by kernel_rfl) (by intro _ _ _ h; exact h) (Or.inl ⟨by rfl, ?y69⟩) hHeld ?_
          case y69 => (intro w hSw; (try dsimp only at hSw); go_simp; try (with_reducible rfl))
          try simp only [Act.put, List.setIfInBounds_toArray, List.set_cons_zero, List.set_cons_succ]
          refine wpAnyH_take (i := 4) (v := ?v70) (by simp only [List.getElem?_toArray, List.getElem?_cons_succ, List.getElem?_cons_zero]; exact rfl) (by kernel_rfl) (by kernel_rfl) (by kernel_rfl) (by intro _ _ _ h; exact h) (Or.inl ⟨by rfl, ?y70⟩) hHeld ?_
          case y70 => (intro w hSw; (try dsimp only at hSw); go_simp; try (with_reducible rfl))
          try simp only [Act.put, List.setIfInBounds_toArray, List.set_cons_zero, List.set_cons_succ]
          refine wpAnyH_take (i := 5) (v := ?v71) (by simp only [List.getElem?_toArray, List.getElem?_cons_succ, List.getElem?_cons_zero]; exact rfl) (by kernel_rfl) (by kernel_rfl) (by kernel_rfl) (by intro _ _ _ h; exact h) (Or.inl ⟨by rfl, ?y71⟩) hHeld ?_
          case y71 => (intro w hSw; (try dsimp only at hSw); go_simp; try (with_reducible rfl))
          try simp only [Act.put, List.setIfInBounds_toArray, List.set_cons_zero, List.set_cons_succ]
          refine wpAnyH_take (i := 6) (v := ?v72) (by simp only [List.getElem?_toArray, List.getElem?_cons_succ, List.getElem?_cons_zero]; exact rfl) (by kernel_rfl) (by kernel_rfl) (by kernel_rfl) (by intro _ _ _ h; exact h) (Or.inl ⟨by rfl, ?y72⟩) hHeld ?_
          case y72 => (intro w hSw; (try dsimp only at hSw); go_simp; try (with_reducible rfl))
          try simp only [Act.put, List.setIfInBounds_toArray, List.set_cons_zero, List.set_cons_succ]
          refine wpAnyH_take (i := 7) (v := ?v73) (by simp only [List.getElem?_toArray, List.getElem?_cons_succ, List.getElem?_cons_zero]; exact rfl) (by kernel_rfl) (by kernel_rfl) (by kernel_rfl) (by intro _ _ _ h; exact h) (Or.inl ⟨by rfl, ?y73⟩) hHeld ?_
          case y73 => (intro w hSw; (try dsimp only at hSw); go_simp; try (with_reducible rfl))
          try simp only [Act.put, List.setIfInBounds_toArray, List.set_cons_zero, List.set_cons_succ]
          refine wpAnyH_take (i := 8) (v := ?v74) (by simp only [List.getElem?_toArray, List.getElem?_cons_succ, List.getElem?_cons_zero]; exact rfl) (by kernel_rfl) (by kernel_rfl) (by kernel_rfl) (by intro _ _ _ h; exact h) (Or.inl ⟨by rfl, ?y74⟩) hHeld ?_
          case y74 => (intro w hSw; (try dsimp only at hSw); go_simp; try (with_reducible rfl))
          try simp only [Act.put, List.setIfInBounds_toArray, List.set_cons_zero, List.set_cons_succ]
          refine wpAnyH_take (i := 9) (v := ?v75) (by simp only [List.getElem?_toArray, List.getElem?_cons_succ, List.getElem?_cons_zero]; exact rfl) (by kernel_rfl) (by kernel_rfl) (by kernel_rfl) (by intro _ _ _ h; exact h) (Or.inl ⟨by rfl, ?y75⟩) hHeld ?_
          case y75 => (intro w hSw; (try dsimp only at hSw); go_simp; try (with_reducible rfl))
          try simp only [Act.put, List.setIfInBounds_toArray, List.set_cons_zero, List.set_cons_succ]
          refine wpAnyH_take (i := 10) (v := ?v76) (by simp only [List.getElem?_toArray, List.getElem?_cons_succ, List.getElem?_cons_zero]; exact rfl) (by kernel_rfl) (by kernel_rfl) (by kernel_rfl) (by intro _ _ _ h; exact h) (Or.inl ⟨by rfl, ?y76⟩) hHeld ?_
          case y76 => (intro w hSw; (try dsimp only at hSw); go_simp; try (with_reducible rfl))
          try simp only [Act.put, List.setIfInBounds_toArray, List.set_cons_zero, List.set_cons_succ]
          refine wpAnyH_take (i := 11) (v := ?v77) (by simp only [List.getElem?_toArray, List.getElem?_cons_succ, List.getElem?_cons_zero]; exact rfl) (by kernel_rfl) (by kernel_rfl) (by kernel_rfl) (by intro _ _ _ h; exact h) (Or.inl ⟨by rfl, ?y77⟩) hHeld ?_
          case y77 => (intro w hSw; (try dsimp only at hSw); go_simp; try (with_reducible rfl))
          try simp only [Act.put, List.setIfInBounds_toArray, List.set_cons_zero, List.set_cons_succ]
          refine wpAnyH_take (i := 12) (v := ?v78) (by simp only [List.getElem?_toArray, List.getElem?_cons_succ, List.getElem?_cons_zero]; exact rfl) (by kernel_rfl) (by kernel_rfl) (by kernel_rfl) (by intro _ _ _ h; exact h) (Or.inl ⟨by rfl, ?y78⟩) hHeld ?_
          case y78 => (intro w hSw; (try dsimp only at hSw); go_simp; try (with_reducible rfl))
          try simp only [Act.put, List.setIfInBounds_toArray, List.set_cons_zero, List.set_cons_succ]
          refine wpAnyH_take (i := 13) (v := ?v79) (by simp only [List.getElem?_toArray, List.getElem?_cons_succ, List.getElem?_cons_zero]; exact rfl) (by kernel_rfl) (by kernel_rfl) (by kernel_rfl) (by intro _ _ _ h; exact h) (Or.inl ⟨by rfl, ?y79⟩) hHeld ?_
          case y79 => (intro w hSw; (try dsimp only at hSw); go_simp; try (with_reducible rfl))
          try simp only [Act.put, List.setIfInBounds_toArray, List.set_cons_zero, List.set_cons_succ]
          refine wpAnyH_ready (rs := [14]) (by kernel_rfl) (by simp) ?_
          refine AllReadyH.cons (by simp only [List.getElem?_toArray, List.getElem?_cons_succ, List.getElem?_cons_zero]; exact rfl) (fun K hK => ?_) AllReadyH.nil
          go_simp
          refine (HLE.out v m w2.heap.size _ wd (hq.trans (hbd.mono hq.size)) hvn hm (hG.below hbd (Nat.le_refl _))).mono ?_
          rintro e w5 ⟨lu, rfl, hlu, hb5⟩
          have hbd := hbd.trans (hb5.mono hbd.size)
          have e0 := (hb5.cell (cell_lt e0)).trans e0
          have e1 := (hb5.cell (cell_lt e1)).trans e1
          obtain ⟨wd, rfl⟩ : ∃ x, x = w5 := ⟨_, rfl⟩
          try dsimp only
          refine hK.out _ _ ?h81 (fun hHeld => ?_)
          case h81 => first | exact ⟨‹_›, ‹_›⟩ | (simp [*, go_sem])
          clear hK K
          try simp only [Act.put, List.setIfInBounds_toArray, List.set_cons_zero, List.set_cons_succ]
          refine wpAnyH_ready (rs := [15]) (by kernel_rfl) (by simp) ?_
          refine AllReadyH.cons (by simp only [List.getElem?_toArray, List.getElem?_cons_succ, List.getElem?_cons_zero]; exact rfl) (fun K hK => ?_) AllReadyH.nil
          go_simp
          have hcl := HCL.out v m wd (hq.trans (hbd.mono hq.size)) _ _ hlu.ints
          rw [HSC.out v m hm, hsi] at hcl
          refine hcl.mono ?_
          rintro e w5 ⟨rfl, hb5⟩
          have hbd := hbd.trans (hb5.mono hbd.size)
          have e0 := (hb5.cell (cell_lt e0)).trans e0
          have e1 := (hb5.cell (cell_lt e1)).trans e1
          obtain ⟨wd, rfl⟩ : ∃ x, x = w5 := ⟨_, rfl⟩
          try dsimp only
          refine hK.out _ _ ?h83 (fun hHeld => ?_)
          case h83 => first | exact ⟨‹_›, ‹_›⟩ | (simp [*, go_sem])
          clear hK K
          try simp only [Act.put, List.setIfInBounds_toArray, List.set_cons_zero, List.set_cons_succ]
          refine wpAnyH_take (i := 16) (v := ?v84) (by simp only [List.getElem?_toArray, List.getElem?_cons_succ, List.getElem?_cons_zero]; exact rfl) (by kernel_rfl) (by kernel_rfl) (by kernel_rfl) (by intro _ _ _ h; exact h) (Or.inl ⟨by rfl, ?y84⟩) hHeld ?_
          case y84 => (intro w hSw; (try dsimp only at hSw); go_simp; try (with_reducible rfl))
          try simp only [Act.put, List.setIfInBounds_toArray, List.set_cons_zero, List.set_cons_succ]
          refine wpAnyH_take (i := 17) (v := ?v85) (by simp only [List.getElem?_toArray, List.getElem?_cons_succ, List.getElem?_cons_zero]; exact rfl) (by kernel_rfl) (by kernel_rfl) (by kernel_rfl) (by intro _ _ _ h; exact h) (Or.inl ⟨by rfl, ?y85⟩) hHeld ?_
          case y85 => (intro w hSw; (try dsimp only at hSw); go_simp; try (with_reducible rfl))
          try simp only [Act.put, List.setIfInBounds_toArray, List.set_cons_zero, List.set_cons_succ]
          refine wpAnyH_take (i := 18) (v := ?v86) (by simp only [List.getElem?_toArray, List.getElem?_cons_succ, List.getElem?_cons_zero]; exact rfl) (by kernel_rfl) (by kernel_rfl) (by kernel_rfl) (by intro _ _ _ h; exact h) (Or.inl ⟨by rfl, ?y86⟩) hHeld ?_
          case y86 => (intro w hSw; (try dsimp only at hSw); go_simp; try (with_reducible rfl))
          try simp only [Act.put, List.setIfInBounds_toArray, List.set_cons_zero, List.set_cons_succ]
          refine wpAnyH_done (by kernel_rfl) ?_ _
          have hqd := hq.trans (hbd.mono hq.size)
          have hGd := hG.below hbd (Nat.le_refl _)
          have hod := hown.below hbd (Nat.le_refl _)
          go_wp2
          go_roundw
          case rel => exact ⟨v + 1, by omega, by go_num, HN2, hGd, hod, hqd, e0⟩
          case measure => simp [RowKit.intOf]; omega
        | true =>
          have hlv : (andN (firstN g.length) m).testBit v = true := (HLF.out m v hm).2 ⟨hvn, hmv⟩
          obtain ⟨d, hd⟩ : ∃ d, g.length - r.length = d + 1 := ⟨g.length - r.length - 1, by omega⟩
          have hl32 : andN (firstN g.length) m < 4294967296 := Nat.lt_of_le_of_lt (andN_le _ _) (by have := firstN_lt h16; omega)
          have hbv : bit v < 4294967296 := bit_lt (by omega)
          have hm32 : m < 4294967296 := by have := pow_le16 h16; omega
          have he2 : andN (andN (firstN g.length) m) (bit v) = andN (firstN g.length) (m ||| bit v) := by
            have hf := firstN_lt h16
            apply nat_ext
            intro i
            rw [testBit_andN hl32 hbv, testBit_andN (by omega) hm32, testBit_andN (by omega) (Nat.or_lt_two_pow (n := 32) hm32 hbv), Nat.testBit_or]
            cases (firstN g.length).testBit i <;> cases m.testBit i <;> cases (bit v).testBit i <;> rfl
          have HPE2 := Lib.hid (show peo (netsL g) = peoF (netsL g) (g.length - (r ++ [v]).length) (andN (firstN g.length) (m ||| bit v)) (r ++ [v]) by
            rw [HPE.out, hd, peoF_findC hl32 hlv hsi HN.out, he2, show g.length - (r ++ [v]).length = d by simp; omega])
          have hm2 : m ||| bit v < 2 ^ g.length := Nat.or_lt_two_pow hm (Nat.pow_lt_pow_right (by omega) hvn)
          have hpop2 : popN (andN (firstN g.length) (m ||| bit v)) + (r.length + 1) = g.length := by
            have := pop_drop hl32 hlv
            rw [he2] at this
            omega
          have heq1 := hneq v g.length (by omega)
          have heq2 : (v == g.length) = false := by rw [beq_eq_false_iff_ne]; omega
          clear hmv hlv hl32 he2 hd hpop hbv hm32
          go_wp2
          refine wp_region_held_drew (S := (fun w' => w'.cell? ⟨w.heap.size, 0, none⟩ = some (.slice va g.length vc) ∧ w'.cell? ⟨w2.heap.size, v, none⟩ = some (.bool false))) (by kernel_rfl) ?_ (fun hHeld => ?_)
          · first | exact ⟨‹_›, ‹_›⟩ | (simp [*, go_sem])
          have hbd : Below wr.heap.size wr wr.drew := ((Drawn.refl _).drew).below _
          generalize wr.drew = wd at hbd hHeld ⊢
          have hH2 := hHeld
          obtain ⟨e0, e1⟩ := hH2
          refine wpAnyH_take (i := 0) (v := ?v87) (by simp only [List.getElem?_toArray, List.getElem?_cons_zero]; exact rfl) (by kernel_rfl) (by kernel_rfl) (by kernel_rfl) (by intro _ _ _ h; exact h) (Or.inl ⟨by rfl, ?y87⟩) hHeld ?_
          case y87 => (intro w hSw; (try dsimp only at hSw); go_simp; try (with_reducible rfl))
          try simp only [Act.put, List.setIfInBounds_toArray, List.set_cons_zero, List.set_cons_succ]
          refine wpAnyH_take (i := 1) (v := ?v88) (by simp only [List.getElem?_toArray, List.getElem?_cons_succ, List.getElem?_cons_zero]; exact rfl) (by kernel_rfl) (by kernel_rfl) (by kernel_rfl) (by intro _ _ _ h; exact h) (Or.inl ⟨by rfl, ?y88⟩) hHeld ?_
          case y88 => (intro w hSw; (try dsimp only at hSw); go_simp; try (with_reducible rfl))
          try simp only [Act.put, List.setIfInBounds_toArray, List.set_cons_zero, List.set_cons_succ]
          refine wpAnyH_ready (rs := [2]) (by kernel_rfl) (by simp) ?_
          refine AllReadyH.cons (by simp only [List.getElem?_toArray, List.getElem?_cons_succ, List.getElem?_cons_zero]; exact rfl) (fun K hK => ?_) AllReadyH.nil
          go_simp
          refine (HSI.out wd (hq.trans (hbd.mono hq.size))).mono ?_
          rintro e w5 ⟨rfl, hb5⟩
          have hbd := hbd.trans (hb5.mono hbd.size)
          have e0 := (hb5.cell (cell_lt e0)).trans e0
          have e1 := (hb5.cell (cell_lt e1)).trans e1
          obtain ⟨wd, rfl⟩ : ∃ x, x = w5 := ⟨_, rfl⟩
          try dsimp only
          refine hK.out _ _ ?h90 (fun hHeld => ?_)
          case h90 => first | exact ⟨‹_›, ‹_›⟩ | (simp [*, go_sem])
          clear hK K
          try simp only [Act.put, List.setIfInBounds_toArray, List.set_cons_zero, List.set_cons_succ]
          refine wpAnyH_take (i := 3) (v := ?v91) (by simp only [List.getElem?_toArray, List.getElem?_cons_succ, List.getElem?_cons_zero]; exact rfl) (by kernel_rfl) (by kernel_rfl) (by kernel_rfl) (by intro _ _ _ h; exact h) (Or.inl ⟨by rfl, ?y91⟩) hHeld ?_
          case y91 => (intro w hSw; (try dsimp only at hSw); go_simp; try (with_reducible rfl))
          try simp only [Act.put, List.setIfInBounds_toArray, List.set_cons_zero, List.set_cons_succ]
          refine wpAnyH_take (i := 4) (v := ?v92) (by simp only [List.getElem?_toArray, List.getElem?_cons_succ, List.getElem?_cons_zero]; exact rfl) (by kernel_rfl) (by kernel_rfl) (by kernel_rfl) (by intro _ _ _ h; exact h) (Or.inl ⟨by rfl, ?y92⟩) hHeld ?_
          case y92 => (intro w hSw; (try dsimp only at hSw); go_simp; try (with_reducible rfl))
          try simp only [Act.put, List.setIfInBounds_toArray, List.set_cons_zero, List.set_cons_succ]
          refine wpAnyH_take (i := 5) (v := ?v93) (by simp only [List.getElem?_toArray, List.getElem?_cons_succ, List.getElem?_cons_zero]; exact rfl) (by kernel_rfl) (by kernel_rfl) (by kernel_rfl) (by intro _ _ _ h; exact h) (Or.inl ⟨by rfl, ?y93⟩) hHeld ?_
          case y93 => (intro w hSw; (try dsimp only at hSw); go_simp; try (with_reducible rfl))
          try simp only [Act.put, List.setIfInBounds_toArray, List.set_cons_zero, List.set_cons_succ]
          refine wpAnyH_take (i := 6) (v := ?v94) (by simp only [List.getElem?_toArray, List.getElem?_cons_succ, List.getElem?_cons_zero]; exact rfl) (by kernel_rfl) (by kernel_rfl) (by kernel_rfl) (by intro _ _ _ h; exact h) (Or.inl ⟨by rfl, ?y94⟩) hHeld ?_
          case y94 => (intro w hSw; (try dsimp only at hSw); go_simp; try (with_reducible rfl))
          try simp only [Act.put, List.setIfInBounds_toArray, List.set_cons_zero, List.set_cons_succ]
          refine wpAnyH_take (i := 7) (v := ?v95) (by simp only [List.getElem?_toArray, List.getElem?_cons_succ, List.getElem?_cons_zero]; exact rfl) (by kernel_rfl) (by kernel_rfl) (by kernel_rfl) (by intro _ _ _ h; exact h) (Or.inl ⟨by rfl, ?y95⟩) hHeld ?_
          case y95 => (intro w hSw; (try dsimp only at hSw); go_simp; try (with_reducible rfl))
          try simp only [Act.put, List.setIfInBounds_toArray, List.set_cons_zero, List.set_cons_succ]
          refine wpAnyH_take (i := 8) (v := ?v96) (by simp only [List.getElem?_toArray, List.getElem?_cons_succ, List.getElem?_cons_zero]; exact rfl) (by kernel_rfl) (by kernel_rfl) (by kernel_rfl) (by intro _ _ _ h; exact h) (Or.inl ⟨by rfl, ?y96⟩) hHeld ?_
          case y96 => (intro w hSw; (try dsimp only at hSw); go_simp; try (with_reducible rfl))
          try simp only [Act.put, List.setIfInBounds_toArray, List.set_cons_zero, List.set_cons_succ]
          refine wpAnyH_take (i := 9) (v := ?v97) (by simp only [List.getElem?_toArray, List.getElem?_cons_succ, List.getElem?_cons_zero]; exact rfl) (by kernel_rfl) (by kernel_rfl) (by kernel_rfl) (by intro _ _ _ h; exact h) (Or.inl ⟨by rfl, ?y97⟩) hHeld ?_
          case y97 => (intro w hSw; (try dsimp only at hSw); go_simp; try (with_reducible rfl))
          try simp only [Act.put, List.setIfInBounds_toArray, List.set_cons_zero, List.set_cons_succ]
          refine wpAnyH_take (i := 10) (v := ?v98) (by simp only [List.getElem?_toArray, List.getElem?_cons_succ, List.getElem?_cons_zero]; exact rfl) (by kernel_rfl) (by kernel_rfl) (by kernel_rfl) (by intro _ _ _ h; exact h) (Or.inl ⟨by rfl, ?y98⟩) hHeld ?_
          case y98 => (intro w hSw; (try dsimp only at hSw); go_simp; try (with_reducible rfl))
          try simp only [Act.put, List.setIfInBounds_toArray, List.set_cons_zero, List.set_cons_succ]
          refine wpAnyH_take (i := 11) (v := ?v99) (by simp only [List.getElem?_toArray, List.getElem?_cons_succ, List.getElem?_cons_zero]; exact rfl) (by kernel_rfl) (by kernel_rfl) (by kernel_rfl) (by intro _ _ _ h; exact h) (Or.inl ⟨by rfl, ?y99⟩) hHeld ?_
          case y99 => (intro w hSw; (try dsimp only at hSw); go_simp; try (with_reducible rfl))
          try simp only [Act.put, List.setIfInBounds_toArray, List.set_cons_zero, List.set_cons_succ]
          refine wpAnyH_take (i := 12) (v := ?v100) (by simp only [List.getElem?_toArray, List.getElem?_cons_succ, List.getElem?_cons_zero]; exact rfl) (by kernel_rfl) (by kernel_rfl) (by kernel_rfl) (by intro _ _ _ h; exact h) (Or.inl ⟨by rfl, ?y100⟩) hHeld ?_
          case y100 => (intro w hSw; (try dsimp only at hSw); go_simp; try (with_reducible rfl))
          try simp only [Act.put, List.setIfInBounds_toArray, List.set_cons_zero, List.set_cons_succ]
          refine wpAnyH_take (i := 13) (v := ?v101) (by simp only [List.getElem?_toArray, List.getElem?_cons_succ, List.getElem?_cons_zero]; exact rfl) (by kernel_rfl) (by kernel_rfl) (by kernel_rfl) (by intro _ _ _ h; exact h) (Or.inl ⟨by rfl, ?y101⟩) hHeld ?_
          case y101 => (intro w hSw; (try dsimp only at hSw); go_simp; try (with_reducible rfl))
          try simp only [Act.put, List.setIfInBounds_toArray, List.set_cons_zero, List.set_cons_succ]
          refine wpAnyH_ready (rs := [14]) (by kernel_rfl) (by simp) ?_
          refine AllReadyH.cons (by simp only [List.getElem?_toArray, List.getElem?_cons_succ, List.getElem?_cons_zero]; exact rfl) (fun K hK => ?_) AllReadyH.nil
          go_simp
          refine (HLE.out v m w2.heap.size _ wd (hq.trans (hbd.mono hq.size)) hvn hm (hG.below hbd (Nat.le_refl _))).mono ?_
          rintro e w5 ⟨lu, rfl, hlu, hb5⟩
          have hbd := hbd.trans (hb5.mono hbd.size)
          have e0 := (hb5.cell (cell_lt e0)).trans e0
          have e1 := (hb5.cell (cell_lt e1)).trans e1
          obtain ⟨wd, rfl⟩ : ∃ x, x = w5 := ⟨_, rfl⟩
          try dsimp only
          refine hK.out _ _ ?h103 (fun hHeld => ?_)
          case h103 => first | exact ⟨‹_›, ‹_›⟩ | (simp [*, go_sem])
          clear hK K
          try simp only [Act.put, List.setIfInBounds_toArray, List.set_cons_zero, List.set_cons_succ]
          refine wpAnyH_ready (rs := [15]) (by kernel_rfl) (by simp) ?_
          refine AllReadyH.cons (by simp only [List.getElem?_toArray, List.getElem?_cons_succ, List.getElem?_cons_zero]; exact rfl) (fun K hK => ?_) AllReadyH.nil
          go_simp
          have hcl := HCL.out v m wd (hq.trans (hbd.mono hq.size)) _ _ hlu.ints
          rw [HSC.out v m hm, hsi] at hcl
          refine hcl.mono ?_
          rintro e w5 ⟨rfl, hb5⟩
          have hbd := hbd.trans (hb5.mono hbd.size)
          have e0 := (hb5.cell (cell_lt e0)).trans e0
          have e1 := (hb5.cell (cell_lt e1)).trans e1
          obtain ⟨wd, rfl⟩ : ∃ x, x = w5 := ⟨_, rfl⟩
          try dsimp only
          refine hK.out _ _ ?h105 (fun hHeld => ?_)
          case h105 => first | exact ⟨‹_›, ‹_›⟩ | (simp [*, go_sem])
          clear hK K
          try simp only [Act.put, List.setIfInBounds_toArray, List.set_cons_zero, List.set_cons_succ]
          refine wpAnyH_take (i := 16) (v := ?v106) (by simp only [List.getElem?_toArray, List.getElem?_cons_succ, List.getElem?_cons_zero]; exact rfl) (by kernel_rfl) (by kernel_rfl) (by kernel_rfl) (by intro _ _ _ h; exact h) (Or.inl ⟨by rfl, ?y106⟩) hHeld ?_
          case y106 => (intro w hSw; (try dsimp only at hSw); go_simp; try (with_reducible rfl))
          try simp only [Act.put, List.setIfInBounds_toArray, List.set_cons_zero, List.set_cons_succ]
          refine wpAnyH_take (i := 17) (v := ?v107) (by simp only [List.getElem?_toArray, List.getElem?_cons_succ, List.getElem?_cons_zero]; exact rfl) (by kernel_rfl) (by kernel_rfl) (by kernel_rfl) (by intro _ _ _ h; exact h) (Or.inl ⟨by rfl, ?y107⟩) hHeld ?_
          case y107 => (intro w hSw; (try dsimp only at hSw); go_simp; try (with_reducible rfl))
          try simp only [Act.put, List.setIfInBounds_toArray, List.set_cons_zero, List.set_cons_succ]
          refine wpAnyH_take (i := 18) (v := ?v108) (by simp only [List.getElem?_toArray, List.getElem?_cons_succ, List.getElem?_cons_zero]; exact rfl) (by kernel_rfl) (by kernel_rfl) (by kernel_rfl) (by intro _ _ _ h; exact h) (Or.inl ⟨by rfl, ?y108⟩) hHeld ?_
          case y108 => (intro w hSw; (try dsimp only at hSw); go_simp; try (with_reducible rfl))
          try simp only [Act.put, List.setIfInBounds_toArray, List.set_cons_zero, List.set_cons_succ]
          refine wpAnyH_done (by kernel_rfl) ?_ _
          have hqd := hq.trans (hbd.mono hq.size)
          have hGd := hG.below hbd (Nat.le_refl _)
          have hod := hown.below hbd (Nat.le_refl _)
          clear hHeld hG hown hq
          have hszd := HSI.out wd hqd
          go_wp2_with fail
          refine hszd.mono ?_
          rintro e w6 ⟨rfl, hb6⟩
          have hq6 := hqd.trans (hb6.mono hqd.size)
          have hG6 := hGd.below hb6 (Nat.le_refl _)
          have ho6 := hod.below hb6 (Nat.le_refl _)
          have e6 := (hb6.cell (cell_lt e0)).trans e0
          refine hold_inP ?_
          unfold HoldQ
          have hf := World.ownsRow.frozenAt hG6 v
          have hgc6 := GonB.cell hG6 hvn
          have hks := KeptBut.set w6 w2.heap.size v (.bool true)
          have hG7 := GonB.set hG6 hvn
          have ho7 : Own (w6.setCell ⟨w2.heap.size, v, none⟩ (.bool true)) (w2.heap.size + 1) 2 1 (.slice oa r.length oc) r.length ((natsI r).map (.int .i64)) := ho6.keep fun b hb => hks.2.2.2.2 b (ho6.lt b hb).2 (fun e => by have h1 := (ho6.lt b hb).1; have e2 := Option.some.inj e; omega)
          have hq7 := hks.below hq6 hq6.size (fun b hb => by have e2 : w2.heap.size = b := Option.some.inj hb; omega)
          have e7 := (World.cell?_of_block (a := ⟨w.heap.size, 0, none⟩) (hks.2.2.2.2 w.heap.size (cell_lt e6) (fun e => by have e2 := Option.some.inj e; omega))).trans e6
          have hB7 : w2.heap.size + 1 ≤ (w6.setCell ⟨w2.heap.size, v, none⟩ (.bool true)).heap.size := by have := hks.2.2.2.1; have := cell_lt hgc6; simp only at this; omega
          have hrn : (r ++ [v]).length ≤ g.length := by simp; omega
          go_wp2_with (at_builtin; refine wpList_append1b elI64 rfl _ _ rfl ho7 rfl (by simp) rfl rfl (by omega) hB7 ?_; intro v8 w8 ho8 hk8 hm8; refine hold_inP ?_)
          unfold HoldQ
          have hq8 := hk8.below hq7 hq7.size (fun b hb => by have := (ho7.lt b hb).1; omega)
          have hG8 : GonB w8 w2.heap.size 4 (.slice (some ⟨w2.heap.size, 0, none⟩) g.length g.length) g.length (m ||| bit v) := Own.keep hG7 fun b hb => hk8.2.2.2.2 b (Own.lt hG7 b hb).2 (fun e => by have h1 := (ho7.lt b e.symm).1; have e2 : w2.heap.size = b := Option.some.inj hb; omega)
          have e8 := (World.cell?_of_block (a := ⟨w.heap.size, 0, none⟩) (hk8.2.2.2.2 w.heap.size (cell_lt e7) (fun e => by have h1 := (ho7.lt _ e.symm).1; omega))).trans e7
          have ho9 : Own w8 (w2.heap.size + 1) 2 1 v8 (r ++ [v]).length ((natsI (r ++ [v])).map (.int .i64)) := by simpa [natsI] using ho8
          have hpop3 : popN (andN (firstN g.length) (m ||| bit v)) + (r ++ [v]).length = g.length := by simpa using hpop2
          have hms : g.length - sliceLen v8 < g.length - r.length := by
            obtain ⟨b8, c8, rfl⟩ := own_some ho8 (by omega)
            simp only [sliceLen]; omega
          clear hG7 ho7 ho8 hk8 hm8 hf hgc6 hks hG6 ho6
          go_wp2
          go_roundw
          case rel => exact ⟨r ++ [v], m ||| bit v, hrn, hm2, hpop3, HPE2, hG8, ho9, hq8, e8⟩
          case measure => simpa [sliceLen] using hms
theorem specChordalInC_any {S : Nat → Prop} {v : Value} {g : List (List Int)} {w : World} (hv : SlR S w v g) :
    Calls Tryd.prog 44 #[.agg #[v]] w fun e w' => e = .returned (.bool (gokB g && (peo (netsL g)).isSome)) ∧ Below w.heap.size w w' := by
  have hq0 : Below w.heap.size w (w.alloc (.cells #[v] 29)) := (Below.refl _ _).alloc (Nat.le_refl _) _
  have hpo := specPerfectOrderC_any (hv.below hq0 (Nat.le_refl _))
  obtain ⟨va, vc, rfl⟩ := hv.slice
  generalize (gokB g && (peo (netsL g)).isSome) = b at *
  go_enter Tryd.func44, Tryd.ntmps44
  go_wp2_with fail
  refine hpo.mono ?_
  rintro e w1 ⟨u, rfl, hb1⟩
  go_wp2
  go_ret
  exact ⟨rfl, hq0.trans (hb1.mono hq0.size)⟩
/-- append(s, x...) of an own slice to an own slice, with where it lies. -/
theorem wpList_appendOM {P : Program} {w : World} {T E : TypeId} {bytes : Nat} {z : Value} (hE : Elem P T E 1 bytes z) {B B' : Nat}
    {ops : Array Oper} {rest : List Oper} {o : Oper} {a : Act} {Q : Exit → Act → World → Prop} (hgd : o.guard = none) (s x : Operand)
    (ho : o.op = .call { callee := .builtin .append, args := #[s, x], argTypes := #[T, T] })
    {v u : Value} {n m : Nat} {xs ys : List Value} (hown : Own w B E 1 v n xs) (hs : a.eval s = v) (hu : Own w B' E 1 u m ys) (hx : a.eval x = u)
    (h1 : ∀ y ∈ ys, y.oneCell' = true) (h63 : n + m ≤ 1099511627) (hbase : B ≤ w.heap.size)
    (h : ∀ v' w', Own w' B E 1 v' (n + m) (xs ++ ys) → KeptBut w w' v.ownBlock → Moved w v v' → wpList P ops Q rest (a.put o.dst v') w') : wpList P ops Q (o :: rest) a w := by
  have hyl : ys.length = m * 1 := hu.1
  rcases hu.2 with ⟨rfl, rfl⟩ | ⟨g, c, cur, rfl, _⟩
  · have hy : ys = [] := List.eq_nil_of_length_eq_zero (by simpa using hyl)
    subst hy
    refine wpList_append0 hE hgd s x ho hown hs hx ?_
    exact h v w (by simpa using hown) ⟨rfl, rfl, rfl, Nat.le_refl _, fun _ _ _ => rfl⟩ (.inl rfl)
  · refine wpList_append hE hgd s x ho hown hs hx (news := ys) hyl (fun j y hj => ?_) h1 h63 hbase (fun v' w' h2 h3 h4 => h v' w' h2 (KeptBut.of_grown h3) h4)
    have hjl : j < ys.length := (List.getElem?_eq_some_iff.1 hj).1
    have := World.ownsRow.cellAt hu j (by omega)
    rw [hj] at this
    by_cases e : j = 0
    · subst e; simpa [Addr.add] using this
    · simpa [Addr.add, e] using this
set_option maxHeartbeats 2000000 in
theorem l8Meet_any {S S' : Nat → Prop} {v u : Value} {xs ys : List Int} {w : World} (hv : SlI S w .i64 v xs) (hu : SlI S' w .i64 u ys) (hl : xs.length ≤ 1048576) :
    Calls Tryd.prog 108 #[v, u] w fun e w' => ∃ r, e = .returned r ∧ Own w' w.heap.size 2 1 r (xs.filter fun x => decide (x ∈ ys)).length ((xs.filter fun x => decide (x ∈ ys)).map (.int .i64)) ∧ Below w.heap.size w w' := by
  have hq0 : Below w.heap.size w (w.alloc (.cells #[] 2)) := (Below.refl _ _).alloc (Nat.le_refl _) _
  obtain ⟨va, vb, vo, vc, rfl, hvl, hva, hvc⟩ := hv
  have HHA := Lib.hid (fun (x : Int) (W : World) (hb : Below w.heap.size w W) => l1Has_any _ _ x W (hu.below hb (Nat.le_refl _)))
  have HVC := Lib.hid (fun (k : Nat) (hk : k < xs.length) (W : World) (hb : Below w.heap.size w W) => (hb.cell (p := ⟨vb, vo + k, none⟩) (cell_lt (hvc k hk))).trans (hvc k hk))
  have HVA := Lib.hid hva
  obtain ⟨ua, uc, rfl⟩ := hu.slice
  have hlit : Own (w.alloc (.cells #[] 2)) w.heap.size 2 1 (.slice (some ⟨w.heap.size, 0, none⟩) 0 0) 0 [] := by
    have := World.ownsRow_lit (base := w.heap.size) (e := 2) (size := 1) w #[] 0 (Nat.le_refl _) (by unfold maxLen; omega) rfl
    simpa [Own] using this
  clear hva hvc hu
  go_enter Tryd.func108, Tryd.ntmps108
  go_wp2
  go_loopw [5, 6] (fun ov iv wr => ∃ (k : Nat) (L : List Int), k ≤ xs.length ∧ iv = .int .i64 (k : Int) ∧ L.length ≤ k ∧ RowKit.Hid (L = (xs.take k).filter fun x => decide (x ∈ ys)) ∧ Own wr w.heap.size 2 1 ov L.length (L.map (.int .i64)) ∧ Below w.heap.size w wr) (fun _ iv _ => xs.length - (RowKit.intOf iv).toNat)
  case atStart => exact ⟨0, [], Nat.zero_le _, rfl, by simp, Lib.hid rfl, hlit, hq0⟩
  case round =>
    clear hlit hq0
    obtain ⟨k, L, hk, rfl, hLk, HL, hown, hq⟩ := hrel
    obtain ⟨oa, oc, rfl⟩ := hown.isSlice
    have hB2 := hq.size
    by_cases hlt : k < xs.length
    case neg =>
      have HE := Lib.hid (show (xs.filter fun x => decide (x ∈ ys)) = L by rw [HL.out, List.take_of_length_le (by omega)])
      go_wp2
      go_ret
      exact ⟨_, rfl, by rw [HE.out]; exact hown, hq⟩
    obtain ⟨rfl, -⟩ := HVA.out (by omega)
    have r1 := HVC.out k hlt wr hq
    have HT := Lib.hid (show xs.take (k + 1) = xs.take k ++ [xs[k]] from List.take_succ_eq_append_getElem hlt)
    generalize xs[k] = x at *
    have hha := HHA.out x wr hq
    cases hmy : decide (x ∈ ys) with
    | false =>
      have HL2 : RowKit.Hid (L = (xs.take (k + 1)).filter fun x => decide (x ∈ ys)) := Lib.hid (by rw [HT.out, List.filter_append, ← HL.out]; simp only [List.filter_cons, hmy, List.filter_nil]; simp)
      rw [hmy] at hha
      clear hmy
      go_wp2_with (go_at_call 56; refine hha.mono ?_; rintro e w' ⟨rfl, rfl⟩)
      go_roundw
      case rel => exact ⟨k + 1, L, by omega, by go_num, by omega, HL2, hown, hq⟩
      case measure => simp [RowKit.intOf]; omega
    | true =>
      have HL2 : RowKit.Hid (L ++ [x] = (xs.take (k + 1)).filter fun x => decide (x ∈ ys)) := Lib.hid (by rw [HT.out, List.filter_append, ← HL.out]; simp only [List.filter_cons, hmy, List.filter_nil]; simp)
      rw [hmy] at hha
      clear hmy
      go_wp2_with (first | (go_at_call 56; refine hha.mono ?_; rintro e w' ⟨rfl, rfl⟩) | (at_builtin; refine wpList_append1 elI64 rfl _ _ rfl hown rfl rfl rfl (by omega) hB2 ?_; intro v' w2 hown2 hkept hmv; have hq2 := hkept.below hq (by omega) (fun b hb => by have := hown.ge b hb; omega)) | fail)
      go_roundw
      case rel => exact ⟨k + 1, L ++ [x], by omega, by go_num, by simp; omega, HL2, by simpa using hown2, hq2⟩
      case measure => simp [RowKit.intOf]; omega
theorem SlI.liveU {S : Nat → Prop} {w : World} {k : IntKind} {v : Value} {xs : List Int} (h : SlI S w k v xs) : SlI (fun b => S b ∧ b < w.heap.size) w k v xs := by
  obtain ⟨a, b, off, cap, rfl, hl, ha, hc⟩ := h
  exact ⟨a, b, off, cap, rfl, hl, fun h0 => ⟨(ha h0).1, (ha h0).2, cell_lt (hc 0 h0)⟩, hc⟩
theorem SlI.dropU {S : Nat → Prop} {w : World} {k : IntKind} {b off n c m : Nat} {xs : List Int} (h : SlI S w k (.slice (some ⟨b, off, none⟩) n c) xs) (hm : m ≤ n) : SlI S w k (.slice (if c = m then some ⟨b, off, none⟩ else some ⟨b, off + m, none⟩) (n - m) (c - m)) (xs.drop m) := by
  obtain ⟨h1, h2, h3⟩ := h.capOf
  by_cases e : m < n
  · rw [if_neg (by omega)]; exact h.drop e
  · have e1 : xs.drop m = [] := List.drop_eq_nil_of_le (by omega)
    have e2 : n - m = 0 := by omega
    rw [e1, e2]
    exact ⟨_, b, off, c - m, rfl, ⟨Nat.zero_le _, by omega⟩, fun h => by simp at h, fun i hi => by simp at hi⟩
theorem natsI_takeU (l : List Nat) (k : Nat) : (natsI l).take k = natsI (l.take k) := by simp [natsI, List.map_take]
theorem natsI_dropU (l : List Nat) (k : Nat) : (natsI l).drop k = natsI (l.drop k) := by simp [natsI, List.map_drop]
/-- What is left and near v. -/
theorem meet_left {ok h v : Nat} {t : List Nat} (hok : ok < 4294967296) (hh : h < 4294967296) (hl : bitsN ok = v :: t) (hv : h.testBit v = false) : (natsI t).filter (fun x => decide (x ∈ bitsI h)) = bitsI (ok &&& h) := by
  have ht := bits_tailC hok hl
  have hvo : ok.testBit v = true := (mem_bitsN hok).1 (by rw [hl]; simp)
  have hv32 := bit_lt_of (n := 32) hok hvo
  refine sorted_ext ?_ (bitsI_sorted _) fun x => ?_
  · rw [← ht, ← bits_nats]; exact (bitsI_sorted _).filter _
  · rw [List.mem_filter, decide_eq_true_eq, mem_bitsI (and_ltC hok), mem_bitsI hh, ← ht, ← bits_nats, mem_bitsI (Nat.lt_of_le_of_lt (andN_le _ _) hok), testBit_andN hok (bit_lt hv32), testBit_bit, Nat.testBit_and, Bool.and_eq_true, Bool.and_eq_true, Bool.not_eq_true', decide_eq_false_iff_not]
    constructor
    · rintro ⟨⟨h1, h2, h3⟩, h4, h5⟩; exact ⟨h1, h2, h5⟩
    · rintro ⟨h1, h2, h3⟩
      exact ⟨⟨h1, h2, fun e => by rw [← e, hv] at h3; cases h3⟩, h1, h3⟩
theorem mask_filter {X : List Int} {h : Nat} (hX : ∀ y ∈ X, 0 ≤ y ∧ y < 32) (hh : h < 4294967296) : maskL (X.filter fun x => decide (x ∈ bitsI h)) = maskL X &&& h := by
  apply nat_ext
  intro i
  rw [Bool.eq_iff_iff, testBit_maskL (fun y hy => (hX y (List.mem_filter.1 hy).1).1), decide_eq_true_eq, List.mem_filter, decide_eq_true_eq, Nat.testBit_and, Bool.and_eq_true, testBit_maskL (fun y hy => (hX y hy).1), decide_eq_true_eq, mem_bitsI hh, Int.toNat_natCast]
  exact ⟨fun h => ⟨h.1, h.2.2⟩, fun h => ⟨h.1, by omega, h.2⟩⟩
theorem mask_more {X : List Int} {l : List Nat} {k : Nat} (hk : k < l.length) : maskL (X ++ natsI (l.take (k + 1))) = maskL (X ++ natsI (l.take k)) ||| bit l[k] := by
  rw [List.take_succ_eq_append_getElem hk, show natsI (l.take k ++ [l[k]]) = natsI (l.take k) ++ [(l[k] : Int)] by unfold natsI; rw [List.map_append]; rfl, ← List.append_assoc, maskL_snoc, Int.toNat_natCast]
/-- append(s, x...) with x any slice of integers. -/
theorem opWp_appendC {P : Program} {w : World} {T E : TypeId} {bytes : Nat} {z : Value} (hE : Elem P T E 1 bytes z) {B : Nat}
    {o : Oper} {a : Act} {K : Act → World → Prop} {Q : Exit → Act → World → Prop} (s x : Operand)
    (ho : o.op = .call { callee := .builtin .append, args := #[s, x], argTypes := #[T, T] })
    {v : Value} {n : Nat} {xs : List Value} (hown : Own w B E 1 v n xs) (hs : a.eval s = v)
    {S : Nat → Prop} {k : IntKind} {sv : Value} {ys : List Int} (hx : a.eval x = sv) (hsv : SlI S w k sv ys)
    (h63 : n + ys.length ≤ 1099511627) (hbase : B ≤ w.heap.size)
    (h : ∀ v' w', Own w' B E 1 v' (n + ys.length) (xs ++ ys.map (.int k)) → KeptBut w w' v.ownBlock → K (a.put o.dst v') w') : o.wp P a w K Q := by
  obtain ⟨ad, b, off, cap, rfl, hl, ha, hc⟩ := hsv
  by_cases h0 : ys.length = 0
  · have hy : ys = [] := List.eq_nil_of_length_eq_zero h0
    subst hy
    have hr := append_run0 (ty := o.type) hE v n xs hown ad cap
    unfold Oper.wp execOp
    simp only [ho, resolve, invoke, builtin, Sem.run_bind, Sem.run_pure, Result.andThen_ok, List.map_toArray, List.map_cons, List.map_nil, hs, hx, List.length_nil, hr]
    exact h _ _ (by simpa using hown) ⟨rfl, rfl, rfl, Nat.le_refl _, fun _ _ _ => rfl⟩
  · obtain ⟨rfl, _⟩ := ha (by omega)
    obtain ⟨v', w', hr, h2, h3, h4⟩ := append_run (ty := o.type) hE v n xs hown ⟨b, off, none⟩ ys.length cap (ys.map (.int k)) (by simp) hc.news ints_one h63 hbase
    unfold Oper.wp execOp
    simp only [ho, resolve, invoke, builtin, Sem.run_bind, Sem.run_pure, Result.andThen_ok, List.map_toArray, List.map_cons, List.map_nil, hs, hx, hr]
    exact h _ _ h2 (KeptBut.of_grown h3)
/-- append(s, x), the new element laid anywhere. -/
theorem opWp_append1C {P : Program} {w : World} {T E : TypeId} {bytes : Nat} {z : Value} (hE : Elem P T E 1 bytes z) {B : Nat}
    {o : Oper} {a : Act} {K : Act → World → Prop} {Q : Exit → Act → World → Prop} (s x : Operand)
    (ho : o.op = .call { callee := .builtin .append, args := #[s, x], argTypes := #[T, T] })
    {v : Value} {n : Nat} {xs : List Value} (hown : Own w B E 1 v n xs) (hs : a.eval s = v) {u : Value} {nb : Nat}
    (hx : a.eval x = .slice (some ⟨nb, 0, none⟩) 1 1) (hcell : w.cell? ⟨nb, 0, none⟩ = some u) (h1 : u.oneCell' = true)
    (h63 : n + 1 ≤ 1099511627) (hbase : B ≤ w.heap.size)
    (h : ∀ v' w', Own w' B E 1 v' (n + 1) (xs ++ [u]) → KeptBut w w' v.ownBlock → Moved w v v' → K (a.put o.dst v') w') : o.wp P a w K Q := by
  obtain ⟨v', w', hr, h2, h3, h4⟩ := append_run (w := w) (ty := o.type) hE v n xs hown ⟨nb, 0, none⟩ 1 1 [u] rfl (fun j u' hj => by
      match j, hj with
      | 0, hj => simp at hj; subst hj; simpa [Addr.add] using hcell)
    (fun u' hu' => by simp at hu'; subst hu'; exact h1) h63 hbase
  unfold Oper.wp execOp
  simp only [ho, resolve, invoke, builtin, Sem.run_bind, Sem.run_pure, Result.andThen_ok, List.map_toArray, List.map_cons, List.map_nil, hs, hx, hr]
  exact h v' w' h2 (KeptBut.of_grown h3) h4
/-- A list of rows: the array new, the rows new or in S. -/
def RowsC (w' : World) (N : Nat) (S : Nat → Prop) (E : TypeId) (u : Value) (L : List (List Int)) : Prop :=
  ∃ vs : List Value, vs.length = L.length ∧ Own w' N E 1 u L.length vs ∧ ∀ i (h : i < L.length) (h2 : i < vs.length), SlI (fun b => (S b ∨ N ≤ b) ∧ b < w'.heap.size ∧ u.ownBlock ≠ some b) w' .i64 vs[i] L[i]
theorem RowsC.below {w w' : World} {N B1 : Nat} {S : Nat → Prop} {E : TypeId} {u : Value} {L : List (List Int)} (h : RowsC w N S E u L) (hb : Below B1 w w') (hB : w.heap.size ≤ B1) : RowsC w' N S E u L := by
  obtain ⟨vs, h1, h2, h3⟩ := h
  exact ⟨vs, h1, h2.below hb hB, fun i hi hi2 => ((h3 i hi hi2).below hb hB).weak fun b hb2 => ⟨hb2.1, Nat.lt_of_lt_of_le hb2.2.1 hb.size, hb2.2.2⟩⟩
set_option maxRecDepth 100000 in
set_option maxHeartbeats 8000000 in
theorem l8Cliques_any {S : Nat → Prop} {gv : Value} {g : List (List Int)} (hg : GOk g) : ∀ (n c o : Nat) (X : List Int) (S1 S2 S3 : Nat → Prop) (sv lv xv : Value) (w : World), SlR S w gv g → SlI S1 w .i64 sv (bitsI c) → SlI S2 w .i64 lv (bitsI o) → SlI S3 w .i64 xv X →
    (∀ y ∈ X, 0 ≤ y ∧ y < 32) → X.length + 32 * n ≤ 100000 → popN o < n → c < 2 ^ g.length → o < 2 ^ g.length → (∀ i j, c.testBit i = true → o.testBit j = true → i < j) → (clqF (netsL g) n c o (maskL X)).length ≤ 100000 →
    Calls Tryd.prog 82 #[.agg #[gv], sv, lv, xv] w fun e w' => ∃ u, e = .returned u ∧ RowsC w' w.heap.size S1 38 u ((clqF (netsL g) n c o (maskL X)).map bitsI) ∧ Below w.heap.size w w' := by
  intro n
  induction n with
  | zero => intro c o X S1 S2 S3 sv lv xv w _ _ _ _ _ _ hp; omega
  | succ n ih =>
    intro c o X S1 S2 S3 sv lv xv w hgv hsv hlv hxv hX hXl hp hc ho hco hlen
    have h16 := hg.hi
    have hp16 := pow_le16 h16
    have hq0 : Below w.heap.size w (w.alloc (.cells #[gv] 29)) := (Below.refl _ _).alloc (Nat.le_refl _) _
    obtain ⟨ga, gc, rfl⟩ := hgv.slice
    obtain ⟨sa, sc, rfl⟩ := hsv.slice
    obtain ⟨la, lc, rfl⟩ := hlv.slice
    obtain ⟨xa, xc, rfl⟩ := hxv.slice
    have ho32 : o < 4294967296 := by omega
    have hlo : (bitsI o).length = 0 ↔ o = 0 := by rw [← bitsI_nil ho32]; exact List.length_eq_zero_iff
    have hlx : X.length = 0 ↔ maskL X = 0 := (maskL_zero fun y hy => (hX y hy).1).symm
    by_cases h0 : o = 0
    · subst h0
      have hl0 : (bitsI 0).length = 0 := hlo.2 rfl
      by_cases hx0 : X.length = 0
      · have HE := Lib.hid (show (clqF (netsL g) (n + 1) c 0 (maskL X)).map bitsI = [bitsI c] by rw [clqF, if_pos rfl, if_pos (hlx.1 hx0)]; rfl)
        have hq1 : Below w.heap.size w ((w.alloc (.cells #[.slice ga g.length gc] 29)).alloc (.cells #[.slice sa (bitsI c).length sc] 38)) := hq0.alloc hq0.size _
        have hlit : Own ((w.alloc (.cells #[.slice ga g.length gc] 29)).alloc (.cells #[.slice sa (bitsI c).length sc] 38)) w.heap.size 38 1 (.slice (some ⟨w.heap.size + 1, 0, none⟩) 1 1) 1 [.slice sa (bitsI c).length sc] := by
          have := World.ownsRow_lit (base := w.heap.size) (e := 38) (size := 1) (w.alloc (.cells #[.slice ga g.length gc] 29)) #[.slice sa (bitsI c).length sc] 1 (by simp) (by unfold maxLen; omega) rfl
          simpa [Own] using this
        have hsv1 := hsv.liveU.below hq1 (Nat.le_refl _)
        have HROW := Lib.hid hsv1
        rw [hl0] at *
        rw [hx0] at *
        clear hlo hlx hl0 hx0 hlen ih hsv1
        go_enter Tryd.func82, Tryd.ntmps82
        go_wp2
        go_ret
        refine ⟨_, rfl, ?_, hq1⟩
        rw [HE.out]
        refine ⟨_, rfl, hlit, fun i h1 h2 => ?_⟩
        have : i = 0 := by simp at h1; exact h1
        subst this
        exact HROW.out.weak fun b hb => ⟨.inl hb.1, Nat.lt_of_lt_of_le hb.2 hq1.size, fun e => by have e2 : w.heap.size + 1 = b := Option.some.inj e; have := hb.2; omega⟩
      · have HE := Lib.hid (show (clqF (netsL g) (n + 1) c 0 (maskL X)).map bitsI = [] by rw [clqF, if_pos rfl, if_neg (fun e => hx0 (hlx.2 e))]; rfl)
        have hq1 : Below w.heap.size w ((w.alloc (.cells #[.slice ga g.length gc] 29)).alloc (.cells #[] 38)) := hq0.alloc hq0.size _
        have hlit : Own ((w.alloc (.cells #[.slice ga g.length gc] 29)).alloc (.cells #[] 38)) w.heap.size 38 1 (.slice (some ⟨w.heap.size + 1, 0, none⟩) 0 0) 0 [] := by
          have := World.ownsRow_lit (base := w.heap.size) (e := 38) (size := 1) (w.alloc (.cells #[.slice ga g.length gc] 29)) #[] 0 (by simp) (by unfold maxLen; omega) rfl
          simpa [Own] using this
        have hx1 : ((X.length : Int) == 0) = false := by rw [beq_eq_false_iff_ne]; omega
        have hx2 : (X.length == 0) = false := by rw [beq_eq_false_iff_ne]; exact hx0
        rw [hl0] at *
        clear hlo hlx hl0 hx0 hlen ih
        go_enter Tryd.func82, Tryd.ntmps82
        go_wp2
        go_loopw [9, 10] (fun fv iv wr => fv = .slice (some ⟨w.heap.size + 1, 0, none⟩) 0 0 ∧ iv = .int .i64 0 ∧ wr = (w.alloc (.cells #[.slice ga g.length gc] 29)).alloc (.cells #[] 38)) (fun _ _ _ => 0)
        case atStart => exact ⟨rfl, rfl, rfl⟩
        case round =>
          obtain ⟨rfl, rfl, rfl⟩ := hrel
          go_wp2
          go_ret
          exact ⟨_, rfl, by rw [HE.out]; exact ⟨[], rfl, hlit, fun i h1 h2 => by simp at h1⟩, hq1⟩
    · have hlpos : 0 < (bitsN o).length := by have := mt hlo.1 h0; rw [show (bitsI o).length = (bitsN o).length by simp [bitsI]] at this; omega
      have hH := net_lt32 hg
      have hirr := net_irr hg
      have HIH := Lib.hid ih
      have hll : (bitsN o).length ≤ 32 := popN_32 o
      have hoe : bitsI o = natsI (bitsN o) := bits_nats o
      have HVE := Lib.hid (show clqF (netsL g) (n + 1) c o (maskL X) = clqL (clqF (netsL g) n) (netsL g) c (bitsN o) o (maskL X) by rw [clqF, if_neg h0])
      have hc32 : c < 4294967296 := by omega
      have HBI := Lib.hid (fun v (hv : v ∈ bitsN o) => show v < g.length ∧ v < 32 ∧ o.testBit v = true from by
        have h := (mem_bitsN ho32).1 hv
        exact ⟨bit_lt_of ho h, bit_lt_of (n := 32) ho32 h, h⟩)
      have HSN := Lib.hid (fun v (hv : o.testBit v = true) => bits_snocC hc32 (bit_lt_of (n := 32) ho32 hv) (fun i hi => hco i v hi hv))
      have HPO := Lib.hid (fun (ok v : Nat) (hsub : ∀ i, ok.testBit i = true → o.testBit i = true) (hlow : ∀ i, ok.testBit i = true → v ≤ i) (hv : o.testBit v = true) => show popN (ok &&& (netsL g).getD v 0) < n ∧ ok &&& (netsL g).getD v 0 < 2 ^ g.length ∧ (∀ i j, (c ||| bit v).testBit i = true → (ok &&& (netsL g).getD v 0).testBit j = true → i < j) from by
        have h1 : ∀ i, (ok &&& (netsL g).getD v 0).testBit i = true → ok.testBit i = true ∧ ((netsL g).getD v 0).testBit i = true := fun i hi => by rw [Nat.testBit_and, Bool.and_eq_true] at hi; exact hi
        have := popN_lt (a := ok &&& (netsL g).getD v 0) (b := o) (i := v) ho32 (fun i hi => hsub i (h1 i hi).1) hv (by rw [Nat.testBit_and, hirr v, Bool.and_false])
        refine ⟨by omega, lt_bits fun i hi => bit_lt_of ho (hsub i (h1 i hi).1), fun i j hi hj => ?_⟩
        have hj2 := h1 j hj
        rcases or_bitC.1 hi with hi | rfl
        · exact hco i j hi (hsub j hj2.1)
        · have h3 := hlow j hj2.1
          refine Nat.lt_of_le_of_ne h3 fun e => ?_
          subst e
          rw [hirr] at hj2; cases hj2.2)
      obtain ⟨lb, lo, lcap, hle, hlc⟩ := hlv.at_
      have hle := hle (by have := mt hlo.1 h0; omega)
      simp only [Value.slice.injEq, true_and] at hle
      obtain ⟨rfl, rfl⟩ := hle
      have HSV := Lib.hid (fun (W : World) (hb : Below w.heap.size w W) => hsv.below hb (Nat.le_refl _))
      have HLV := Lib.hid (fun (W : World) (hb : Below w.heap.size w W) => hlv.below hb (Nat.le_refl _))
      have HXV := Lib.hid (fun (W : World) (hb : Below w.heap.size w W) => hxv.below hb (Nat.le_refl _))
      have HGV := Lib.hid (fun (W : World) (hb : Below w.heap.size w W) => hgv.below hb (Nat.le_refl _))
      have HHX := Lib.hid hX
      have hco' := HVE
      have hq1 : Below w.heap.size w ((w.alloc (.cells #[.slice ga g.length gc] 29)).alloc (.cells #[] 38)) := hq0.alloc hq0.size _
      have c0 : ((w.alloc (.cells #[.slice ga g.length gc] 29)).alloc (.cells #[] 38)).cell? ⟨w.heap.size, 0, none⟩ = some (.slice ga g.length gc) := by simp [go_sem]
      have hF0 := OwnS.empty (w.alloc (.cells #[.slice ga g.length gc] 29)) (w.heap.size + 1) 38 (by simp)
      rw [show (w.alloc (.cells #[.slice ga g.length gc] 29)).heap.size = w.heap.size + 1 by simp] at hF0
      have HROW := Lib.hid (show ∃ gb goff, ga = some ⟨gb, goff, none⟩ ∧ ∀ k, k < g.length → ∃ ra rc, ∀ W : World, Below w.heap.size w W → W.cell? ⟨gb, goff + k, none⟩ = some (.slice ra (bitsI ((netsL g).getD k 0)).length rc) ∧ SlI S W .i64 (.slice ra (bitsI ((netsL g).getD k 0)).length rc) (bitsI ((netsL g).getD k 0)) from by
        have hlo1 := hg.lo
        obtain ⟨ga', gb, goff, gcap, gf, hve, hgl, hga, hgc⟩ := hgv
        simp only [Value.slice.injEq, true_and] at hve
        obtain ⟨rfl, rfl⟩ := hve
        obtain ⟨rfl, -⟩ := hga (by omega)
        refine ⟨gb, goff, rfl, fun k hk => ?_⟩
        obtain ⟨hgr, hrow⟩ := hgc k hk
        rw [row_bits hg hk] at hrow
        obtain ⟨ra, rc, hre⟩ := hrow.slice
        rw [hre] at hgr hrow
        exact ⟨ra, rc, fun W hb => ⟨(hb.cell (cell_lt hgr)).trans hgr, hrow.below hb (Nat.le_refl _)⟩⟩)
      obtain ⟨gb, goff, hge, hrw⟩ := HROW.out
      have HROWS := Lib.hid hrw
      subst hge
      clear hrw HROW
      have HLC := Lib.hid (fun (k : Nat) (hk : k < (bitsN o).length) (W : World) (hb : Below w.heap.size w W) => show W.cell? ⟨lb, lo + k, none⟩ = some (.int .i64 (((bitsN o)[k] : Nat) : Int)) from by
        have h := hlc k (by rw [hoe, natsI_len]; exact hk)
        refine ((hb.cell (p := ⟨lb, lo + k, none⟩) (cell_lt h)).trans h).trans ?_
        simp only [hoe, natsI_get])
      have hlcap := hlv.capOf
      have HLEN := Lib.hid hlen
      have hXl2 : X.length ≤ 100000 := by omega
      have hcl := bitsI_len c
      have HX0 : RowKit.Hid (maskL X = maskL (X ++ natsI ((bitsN o).take 0))) := Lib.hid (by simp [natsI])
      have HL0 : RowKit.Hid (bitsN o = (bitsN o).drop 0) := Lib.hid rfl
      simp only [hoe, natsI_len] at HLV hlcap
      generalize hl : bitsN o = l at *
      have ho1 : ((l.length : Int) == 0) = false := by rw [beq_eq_false_iff_ne]; omega
      have ho2 : (l.length == 0) = false := by rw [beq_eq_false_iff_ne]; omega
      have HLNT := Lib.hid (show (bitsI o).length = l.length by rw [← hl]; simp [bitsI])
      rw [HLNT.out]
      have HLN := Lib.hid hl
      clear hl hlc hlen ih hlx hlo hoe hsv hlv hxv hgv h0 hco hp
      go_enter Tryd.func82, Tryd.ntmps82
      go_wp2
      go_loopw [9, 10] (fun fv iv wr => ∃ (k ok : Nat) (F : List Nat) (fa : Option Addr) (fc : Nat), k ≤ l.length ∧ iv = .int .i64 (k : Int) ∧ ok < 4294967296 ∧ RowKit.Hid (∀ i, ok.testBit i = true → o.testBit i = true) ∧ RowKit.Hid (bitsN ok = l.drop k) ∧ RowKit.Hid (F ++ clqL (clqF (netsL g) n) (netsL g) c (l.drop k) ok (maskL (X ++ natsI (l.take k))) = clqF (netsL g) (n + 1) c o (maskL X)) ∧ fv = .slice fa F.length fc ∧ F.length ≤ 100000 ∧ OwnS wr (w.heap.size + 1) 38 (.slice fa F.length fc) (F.map bitsI) ∧ Below w.heap.size w wr ∧ wr.cell? ⟨w.heap.size, 0, none⟩ = some (.slice (some ⟨gb, goff, none⟩) g.length gc)) (fun _ iv _ => l.length - (RowKit.intOf iv).toNat)
      case atStart => exact ⟨0, o, [], _, _, Nat.zero_le _, rfl, ho32, Lib.hid (fun i hi => hi), Lib.hid (by rw [HLN.out]; rfl), Lib.hid (by rw [HVE.out]; simp [natsI]), rfl, by simp, hF0, hq1, c0⟩
      case round =>
        clear hF0 hq1 c0 HX0 HL0
        obtain ⟨k, ok, F, fa, fc, hk, rfl, hok, HSU, HTL, HLK, rfl, hFl, hF, hq, c1⟩ := hrel
        by_cases hlt : k < l.length
        case neg =>
          have HLF := Lib.hid (show F = clqF (netsL g) (n + 1) c o (maskL X) by
            have h := HLK.out
            rw [List.drop_eq_nil_of_le (by omega), clqL, List.append_nil] at h
            exact h)
          go_wp2
          go_ret
          refine ⟨.slice fa F.length fc, rfl, ?_, hq⟩
          rw [← HLF.out]
          obtain ⟨vs, h1, h2, h3⟩ := hF
          exact ⟨vs, h1, by rw [List.length_map] at h2 ⊢; exact h2.weak (by omega), fun i hi hi2 => (h3 i hi hi2).weak fun b hb => ⟨.inr (by have := hb.1; omega), hb.2.1, hb.2.2⟩⟩
        have hvl := HBI.out l[k] (List.getElem_mem hlt)
        have d1 := HLC.out k hlt wr hq
        have HDR := Lib.hid (show l.drop k = l[k] :: l.drop (k + 1) from List.drop_eq_getElem_cons hlt)
        have HMM := Lib.hid (mask_more (X := X) hlt)
        have HSNk := Lib.hid (HSN.out l[k] hvl.2.2)
        have hsrt : ∀ i, ok.testBit i = true → l[k] ≤ i := fun i hi => by
          have hm := (mem_bitsN hok).2 hi
          have hs := bitsN_sorted ok
          rw [HTL.out, HDR.out] at hm hs
          rcases List.mem_cons.1 hm with e | hm
          · omega
          · have := List.rel_of_pairwise_cons hs hm; omega
        obtain ⟨hp1, hp2, hp3⟩ := HPO.out ok l[k] HSU.out hsrt hvl.2.2
        obtain ⟨ra, rc, hrw⟩ := HROWS.out l[k] hvl.1
        have HRW := Lib.hid hrw
        clear hrw
        have HMF := Lib.hid (fun (Y : List Int) (hY : ∀ y ∈ Y, 0 ≤ y ∧ y < 32) => mask_filter (X := Y) (h := (netsL g).getD l[k] 0) hY (hH _))
        have HML := Lib.hid (meet_left (t := l.drop (k + 1)) hok (hH l[k]) (by rw [HTL.out, HDR.out]) (hirr l[k]))
        have htlen : (l.take k).length ≤ 32 := by rw [List.length_take]; omega
        have hkl : ((l.take k).length = k) := by rw [List.length_take]; omega
        have HTB := Lib.hid (fun y (hy : y ∈ natsI (l.take k)) => show 0 ≤ y ∧ y < 32 from by
          obtain ⟨z, hz, rfl⟩ := List.mem_map.1 hy
          have := HBI.out z (List.mem_of_mem_take hz)
          omega)
        have hlv2 := HLV.out
        generalize hvk : l[k] = v at *
        have hcv : c ||| bit v < 2 ^ g.length := Nat.or_lt_two_pow hc (Nat.pow_lt_pow_right (by omega) hvl.1)
        have hrl := bitsI_len ((netsL g).getD v 0)
        have g0 := (HRW.out wr hq).1
        obtain ⟨lad, hlad⟩ : ∃ ad : Option Addr, (if lc = k + 1 then some (⟨lb, lo, none⟩ : Addr) else some ⟨lb, lo + (k + 1), none⟩) = ad := ⟨_, rfl⟩
        have HL1 := Lib.hid (fun (W : World) (hb : Below w.heap.size w W) => show SlI S2 W .i64 (.slice lad (l.length - (k + 1)) (lc - (k + 1))) (natsI (l.drop (k + 1))) from by
          have h := (HLV.out W hb).dropU (m := k + 1) (by omega)
          rw [hlad, natsI_dropU] at h
          exact h)
        have HL2 := Lib.hid (fun (W : World) (hb : Below w.heap.size w W) => show SlI S2 W .i64 (.slice (some ⟨lb, lo, none⟩) k lc) (natsI (l.take k)) from by
          have h := (HLV.out W hb).take (m := k) (by omega)
          rw [natsI_takeU] at h
          exact h)
        have hk1 : k + 1 ≤ lc := by omega
        have hwk1 : IntKind.i64.wrap ((k : Int) + 1) = (k : Int) + 1 := IntWalk.i64_in _ (by omega)
        have hwk2 : ((k : Int) + 1).toNat = k + 1 := by omega
        have hwk3 : (0 : Int) ≤ (k : Int) + 1 := by omega
        have hwk4 : (k : Int) + 1 ≤ (l.length : Int) := by omega
        have hwk5 : k ≤ l.length := by omega
        have hk2 : k ≤ lc := by omega
        have hok2 : andN ok (bit v) < 4294967296 := Nat.lt_of_le_of_lt (andN_le _ _) hok
        have HTL2 := Lib.hid (show bitsN (andN ok (bit v)) = l.drop (k + 1) from bits_tailC hok (by rw [HTL.out, HDR.out]))
        have HSU2 := Lib.hid (show ∀ i, (andN ok (bit v)).testBit i = true → o.testBit i = true from fun i hi => by
          rw [testBit_andN hok (bit_lt hvl.2.1), Bool.and_eq_true] at hi
          exact HSU.out i hi.1)
        have HXT := Lib.hid (show ∀ y ∈ X ++ natsI (l.take k), 0 ≤ y ∧ y < 32 from fun y hy => by
          rcases List.mem_append.1 hy with hy | hy
          · exact HHX.out y hy
          · exact HTB.out y hy)
        have HLK2 := Lib.hid (show (F ++ clqF (netsL g) n (c ||| bit v) (ok &&& (netsL g).getD v 0) (maskL ((X ++ natsI (l.take k)).filter fun x => decide (x ∈ bitsI ((netsL g).getD v 0))))) ++ clqL (clqF (netsL g) n) (netsL g) c (l.drop (k + 1)) (andN ok (bit v)) (maskL (X ++ natsI (l.take (k + 1)))) = clqF (netsL g) (n + 1) c o (maskL X) by
          have h := HLK.out
          rw [HDR.out, clqL, ← List.append_assoc] at h
          rw [HMF.out _ HXT.out, HMM.out]
          exact h)
        obtain ⟨L2, hL2⟩ : ∃ L2, L2 = clqF (netsL g) n (c ||| bit v) (ok &&& (netsL g).getD v 0) (maskL ((X ++ natsI (l.take k)).filter fun x => decide (x ∈ bitsI ((netsL g).getD v 0)))) := ⟨_, rfl⟩
        have hLb : F.length + L2.length ≤ 100000 := by
          have h := HLEN.out
          rw [← HLK2.out, ← hL2] at h
          simp only [List.length_append] at h
          omega
        rw [← hL2] at HLK2
        have hfl : ((X ++ natsI (l.take k)).filter fun x => decide (x ∈ bitsI ((netsL g).getD v 0))).length ≤ X.length + 32 := by
          refine Nat.le_trans (List.length_filter_le _ _) ?_
          rw [List.length_append, natsI_len]; omega
        have HREC := Lib.hid (fun (sv xv : Value) (S1' S3' : Nat → Prop) (S2' : Nat → Prop) (lv2 : Value) (W : World) (hb : Below w.heap.size w W) (h1 : SlI S1' W .i64 sv (bitsI (c ||| bit v))) (h2 : SlI S2' W .i64 lv2 (bitsI (ok &&& (netsL g).getD v 0))) (h3 : SlI S3' W .i64 xv ((X ++ natsI (l.take k)).filter fun x => decide (x ∈ bitsI ((netsL g).getD v 0)))) => by
          have h := HIH.out (c ||| bit v) (ok &&& (netsL g).getD v 0) _ S1' S2' S3' sv lv2 xv W (HGV.out W hb) h1 h2 h3 (fun y hy => HXT.out y (List.mem_filter.1 hy).1) (by omega) hp1 hcv hp2 hp3 (by rw [← hL2]; omega)
          rw [← hL2] at h
          exact h)
        have hXF : (X ++ natsI (l.take k)).length = X.length + k := by rw [List.length_append, natsI_len, hkl]
        have HXF := Lib.hid hXF
        have hv32 := hvl.2.1
        have hcl2 := bitsI_len (c ||| bit v)
        have HCL2 := Lib.hid (show (bitsI (c ||| bit v)).length = (bitsI c).length + 1 by rw [HSNk.out]; simp)
        clear hL2 hp1 hp2 hp3 hsrt hvk hXF hkl
        obtain ⟨wi, rfl⟩ : ∃ wx : World, wx = wr := ⟨_, rfl⟩
        go_wp2
        refine wp_region_held_drew (S := (fun w' => w'.cell? ⟨w.heap.size, 0, none⟩ = some (.slice (some ⟨gb, goff, none⟩) g.length gc) ∧ w'.cell? ⟨gb, goff + v, none⟩ = some (.slice ra (bitsI ((netsL g).getD v 0)).length rc))) (by kernel_rfl) ?_ (fun hHeld => ?_)
        · first | exact ⟨‹_›, ‹_›⟩ | (simp [*, go_sem])
        have hbd : Below wi.heap.size wi wi.drew := ((Drawn.refl _).drew).below _
        generalize wi.drew = wd at hbd hHeld ⊢
        have hH2 := hHeld
        obtain ⟨e0, e1⟩ := hH2
        refine wpAnyH_take (i := 0) (v := ?v109) (by simp only [List.getElem?_toArray, List.getElem?_cons_zero]; exact rfl) (by kernel_rfl) (by kernel_rfl) (by kernel_rfl) (by intro _ _ _ h; exact h) (Or.inl ⟨by rfl, ?y109⟩) hHeld ?_
        case y109 => (intro w hSw; (try dsimp only at hSw); go_simp; try (with_reducible rfl))
        try simp only [Act.put, List.setIfInBounds_toArray, List.set_cons_zero, List.set_cons_succ]
        refine wpAnyH_take (i := 1) (v := ?v110) (by simp only [List.getElem?_toArray, List.getElem?_cons_succ, List.getElem?_cons_zero]; exact rfl) (by kernel_rfl) (by kernel_rfl) (by kernel_rfl) (by intro _ _ _ h; exact h) (Or.inl ⟨by rfl, ?y110⟩) hHeld ?_
        case y110 => (intro w hSw; (try dsimp only at hSw); go_simp; try (with_reducible rfl))
        try simp only [Act.put, List.setIfInBounds_toArray, List.set_cons_zero, List.set_cons_succ]
        refine wpAnyH_take (i := 3) (v := ?v111) (by simp only [List.getElem?_toArray, List.getElem?_cons_succ, List.getElem?_cons_zero]; exact rfl) (by kernel_rfl) (by kernel_rfl) (by kernel_rfl) (by intro _ _ _ h; exact h) (Or.inl ⟨by rfl, ?y111⟩) hHeld ?_
        case y111 => (intro w hSw; (try dsimp only at hSw); go_simp; try (with_reducible rfl))
        try simp only [Act.put, List.setIfInBounds_toArray, List.set_cons_zero, List.set_cons_succ]
        refine wpAnyH_take (i := 6) (v := ?v112) (by simp only [List.getElem?_toArray, List.getElem?_cons_succ, List.getElem?_cons_zero]; exact rfl) (by kernel_rfl) (by kernel_rfl) (by kernel_rfl) (by intro _ _ _ h; exact h) (Or.inl ⟨by rfl, ?y112⟩) hHeld ?_
        case y112 => (intro w hSw; (try dsimp only at hSw); go_simp; try (with_reducible rfl))
        try simp only [Act.put, List.setIfInBounds_toArray, List.set_cons_zero, List.set_cons_succ]
        refine wpAnyH_take (i := 7) (v := ?v113) (by simp only [List.getElem?_toArray, List.getElem?_cons_succ, List.getElem?_cons_zero]; exact rfl) (by kernel_rfl) (by kernel_rfl) (by kernel_rfl) (by intro _ _ _ h; exact h) (Or.inl ⟨by rfl, ?y113⟩) hHeld ?_
        case y113 => (intro w hSw; (try dsimp only at hSw); go_simp; try (with_reducible rfl))
        try simp only [Act.put, List.setIfInBounds_toArray, List.set_cons_zero, List.set_cons_succ]
        refine wpAnyH_take (i := 8) (v := ?v114) (by simp only [List.getElem?_toArray, List.getElem?_cons_succ, List.getElem?_cons_zero]; exact rfl) (by kernel_rfl) (by kernel_rfl) (by kernel_rfl) (by intro _ _ _ h; exact h) (Or.inl ⟨by rfl, ?y114⟩) hHeld ?_
        case y114 => (intro w hSw; (try dsimp only at hSw); go_simp; try (with_reducible rfl))
        try simp only [Act.put, List.setIfInBounds_toArray, List.set_cons_zero, List.set_cons_succ]
        refine wpAnyH_take (i := 9) (v := ?v115) (by simp only [List.getElem?_toArray, List.getElem?_cons_succ, List.getElem?_cons_zero]; exact rfl) (by kernel_rfl) (by kernel_rfl) (by kernel_rfl) (by intro _ _ _ h; exact h) (Or.inl ⟨by rfl, ?y115⟩) hHeld ?_
        case y115 => (intro w hSw; (try dsimp only at hSw); go_simp; try (with_reducible rfl))
        try simp only [Act.put, List.setIfInBounds_toArray, List.set_cons_zero, List.set_cons_succ]
        refine wpAnyH_take (i := 10) (v := ?v116) (by simp only [List.getElem?_toArray, List.getElem?_cons_succ, List.getElem?_cons_zero]; exact rfl) (by kernel_rfl) (by kernel_rfl) (by kernel_rfl) (by intro _ _ _ h; exact h) (Or.inl ⟨by rfl, ?y116⟩) hHeld ?_
        case y116 => (intro w hSw; (try dsimp only at hSw); go_simp; try (with_reducible rfl))
        try simp only [Act.put, List.setIfInBounds_toArray, List.set_cons_zero, List.set_cons_succ]
        refine wpAnyH_take (i := 11) (v := ?v117) (by simp only [List.getElem?_toArray, List.getElem?_cons_succ, List.getElem?_cons_zero]; exact rfl) (by kernel_rfl) (by kernel_rfl) (by kernel_rfl) (by intro _ _ _ h; exact h) (Or.inl ⟨by rfl, ?y117⟩) hHeld ?_
        case y117 => (intro w hSw; (try dsimp only at hSw); go_simp; try (with_reducible rfl))
        try simp only [Act.put, List.setIfInBounds_toArray, List.set_cons_zero, List.set_cons_succ]
        refine wpAnyH_take (i := 12) (v := ?v118) (by simp only [List.getElem?_toArray, List.getElem?_cons_succ, List.getElem?_cons_zero]; exact rfl) (by kernel_rfl) (by kernel_rfl) (by kernel_rfl) (by intro _ _ _ h; exact h) (Or.inl ⟨by rfl, ?y118⟩) hHeld ?_
        case y118 => (intro w hSw; (try dsimp only at hSw); go_simp; try (with_reducible rfl))
        try simp only [Act.put, List.setIfInBounds_toArray, List.set_cons_zero, List.set_cons_succ]
        refine wpAnyH_take (i := 13) (v := ?v119) (by simp only [List.getElem?_toArray, List.getElem?_cons_succ, List.getElem?_cons_zero]; exact rfl) (by kernel_rfl) (by kernel_rfl) (by kernel_rfl) (by intro _ _ _ h; exact h) (Or.inl ⟨by rfl, ?y119⟩) hHeld ?_
        case y119 => (intro w hSw; (try dsimp only at hSw); go_simp; try (with_reducible rfl))
        try simp only [Act.put, List.setIfInBounds_toArray, List.set_cons_zero, List.set_cons_succ]
        refine wpAnyH_take (i := 14) (v := ?v120) (by simp only [List.getElem?_toArray, List.getElem?_cons_succ, List.getElem?_cons_zero]; exact rfl) (by kernel_rfl) (by kernel_rfl) (by kernel_rfl) (by intro _ _ _ h; exact h) (Or.inl ⟨by rfl, ?y120⟩) hHeld ?_
        case y120 => (intro w hSw; (try dsimp only at hSw); go_simp; try (with_reducible rfl))
        try simp only [Act.put, List.setIfInBounds_toArray, List.set_cons_zero, List.set_cons_succ]
        refine wpAnyH_take (i := 16) (v := ?v121) (by simp only [List.getElem?_toArray, List.getElem?_cons_succ, List.getElem?_cons_zero]; exact rfl) (by kernel_rfl) (by kernel_rfl) (by kernel_rfl) (by intro _ _ _ h; exact h) (Or.inl ⟨by rfl, ?y121⟩) hHeld ?_
        case y121 => (intro w hSw; (try dsimp only at hSw); go_simp; try (with_reducible rfl))
        try simp only [Act.put, List.setIfInBounds_toArray, List.set_cons_zero, List.set_cons_succ]
        refine wpAnyH_take (i := 18) (v := ?v122) (by simp only [List.getElem?_toArray, List.getElem?_cons_succ, List.getElem?_cons_zero]; exact rfl) (by kernel_rfl) (by kernel_rfl) (by kernel_rfl) (by intro _ _ _ h; exact h) (Or.inl ⟨by rfl, ?y122⟩) hHeld ?_
        case y122 => (intro w hSw; (try dsimp only at hSw); go_simp; try (with_reducible rfl))
        try simp only [Act.put, List.setIfInBounds_toArray, List.set_cons_zero, List.set_cons_succ]
        refine wpAnyH_take (i := 19) (v := ?v123) (by simp only [List.getElem?_toArray, List.getElem?_cons_succ, List.getElem?_cons_zero]; exact rfl) (by kernel_rfl) (by kernel_rfl) (by kernel_rfl) (by intro _ _ _ h; exact h) (Or.inl ⟨by rfl, ?y123⟩) hHeld ?_
        case y123 => (intro w hSw; (try dsimp only at hSw); go_simp; try (with_reducible rfl))
        try simp only [Act.put, List.setIfInBounds_toArray, List.set_cons_zero, List.set_cons_succ]
        refine wpAnyH_take (i := 20) (v := ?v124) (by simp only [List.getElem?_toArray, List.getElem?_cons_succ, List.getElem?_cons_zero]; exact rfl) (by kernel_rfl) (by kernel_rfl) (by kernel_rfl) (by intro _ _ _ h; exact h) (Or.inl ⟨by rfl, ?y124⟩) hHeld ?_
        case y124 => (intro w hSw; (try dsimp only at hSw); go_simp; try (with_reducible rfl))
        try simp only [Act.put, List.setIfInBounds_toArray, List.set_cons_zero, List.set_cons_succ]
        refine wpAnyH_take (i := 22) (v := ?v125) (by simp only [List.getElem?_toArray, List.getElem?_cons_succ, List.getElem?_cons_zero]; exact rfl) (by kernel_rfl) (by kernel_rfl) (by kernel_rfl) (by intro _ _ _ h; exact h) (Or.inl ⟨by rfl, ?y125⟩) hHeld ?_
        case y125 => (intro w hSw; (try dsimp only at hSw); go_simp; try (with_reducible rfl))
        try simp only [Act.put, List.setIfInBounds_toArray, List.set_cons_zero, List.set_cons_succ]
        refine wpAnyH_take (i := 23) (v := ?v126) (by simp only [List.getElem?_toArray, List.getElem?_cons_succ, List.getElem?_cons_zero]; exact rfl) (by kernel_rfl) (by kernel_rfl) (by kernel_rfl) (by intro _ _ _ h; exact h) (Or.inl ⟨by rfl, ?y126⟩) hHeld ?_
        case y126 => (intro w hSw; (try dsimp only at hSw); go_simp; try (with_reducible rfl))
        try simp only [Act.put, List.setIfInBounds_toArray, List.set_cons_zero, List.set_cons_succ]
        refine wpAnyH_take (i := 24) (v := ?v127) (by simp only [List.getElem?_toArray, List.getElem?_cons_succ, List.getElem?_cons_zero]; exact rfl) (by kernel_rfl) (by kernel_rfl) (by kernel_rfl) (by intro _ _ _ h; exact h) (Or.inl ⟨by rfl, ?y127⟩) hHeld ?_
        case y127 => (intro w hSw; (try dsimp only at hSw); go_simp; try (with_reducible rfl))
        try simp only [Act.put, List.setIfInBounds_toArray, List.set_cons_zero, List.set_cons_succ]
        refine wpAnyH_take (i := 25) (v := ?v128) (by simp only [List.getElem?_toArray, List.getElem?_cons_succ, List.getElem?_cons_zero]; exact rfl) (by kernel_rfl) (by kernel_rfl) (by kernel_rfl) (by intro _ _ _ h; exact h) (Or.inl ⟨by rfl, ?y128⟩) hHeld ?_
        case y128 => (intro w hSw; (try dsimp only at hSw); go_simp; try (with_reducible rfl))
        try simp only [Act.put, List.setIfInBounds_toArray, List.set_cons_zero, List.set_cons_succ]
        refine wpAnyH_take (i := 26) (v := ?v129) (by simp only [List.getElem?_toArray, List.getElem?_cons_succ, List.getElem?_cons_zero]; exact rfl) (by kernel_rfl) (by kernel_rfl) (by kernel_rfl) (by intro _ _ _ h; exact h) (Or.inl ⟨by rfl, ?y129⟩) hHeld ?_
        case y129 => (intro w hSw; (try dsimp only at hSw); go_simp; try (with_reducible rfl))
        try simp only [Act.put, List.setIfInBounds_toArray, List.set_cons_zero, List.set_cons_succ]
        refine wpAnyH_ready (rs := [2, 4]) (by kernel_rfl) (by simp) ?_
        refine (AllReadyH.cons (by simp only [List.getElem?_toArray, List.getElem?_cons_succ, List.getElem?_cons_zero]; exact rfl) (fun K hK => ?b130_2) (AllReadyH.cons (by simp only [List.getElem?_toArray, List.getElem?_cons_succ, List.getElem?_cons_zero]; exact rfl) (fun K hK => ?b130_4) AllReadyH.nil))
        case b130_2 =>
          go_simp
          with_reducible refine (l1Copy_any _ _ _ (HSV.out wd (hq.trans (hbd.mono hq.size))) (by omega)).mono ?_
          rintro e wy ⟨cv, rfl, hcv0, hbn⟩
          have hcp := hcv0.weak (show wi.heap.size ≤ wd.heap.size from hbd.size)
          clear hcv0
          try have clit := (hbn.cell (cell_lt clit)).trans clit
          have hbd := hbd.trans (hbn.mono hbd.size)
          clear hbn e0 e1
          obtain ⟨wd, rfl⟩ : ∃ x, x = wy := ⟨_, rfl⟩
          have e0 := (hbd.cell (cell_lt c1)).trans c1
          have e1 := (HRW.out wd (hq.trans (hbd.mono hq.size))).1
          try dsimp only
          refine hK.out _ _ ?h131 (fun hHeld => ?_)
          case h131 => first | exact ⟨‹_›, ‹_›⟩ | (simp [*, go_sem])
          clear hK K
          try simp only [Act.put, List.setIfInBounds_toArray, List.set_cons_zero, List.set_cons_succ]
          refine wpAnyH_ready (rs := [4]) (by kernel_rfl) (by simp) ?_
          refine AllReadyH.cons (by simp only [List.getElem?_toArray, List.getElem?_cons_succ, List.getElem?_cons_zero]; exact rfl) (fun K hK => ?_) AllReadyH.nil
          go_simp
          obtain ⟨nb, hnb⟩ : ∃ nb, nb = wd.heap.size := ⟨_, rfl⟩
          rw [← hnb]
          have hbn : Below wd.heap.size wd (wd.alloc (.cells #[.int .i64 (v : Int)] 2)) := (Below.refl _ _).alloc (Nat.le_refl _) _
          have clit : (wd.alloc (.cells #[.int .i64 (v : Int)] 2)).cell? ⟨nb, 0, none⟩ = some (.int .i64 (v : Int)) := (by rw [hnb]; simp [go_sem])
          try have hcp := hcp.below hbn (Nat.le_refl _)
          have hbd := hbd.trans (hbn.mono hbd.size)
          clear hnb hbn e0 e1
          first | generalize wd.alloc (.cells #[.int .i64 (v : Int)] 2) = wy at clit hbd hcp ⊢ | generalize wd.alloc (.cells #[.int .i64 (v : Int)] 2) = wy at clit hbd ⊢
          obtain ⟨wd, rfl⟩ : ∃ x, x = wy := ⟨_, rfl⟩
          have e0 := (hbd.cell (cell_lt c1)).trans c1
          have e1 := (HRW.out wd (hq.trans (hbd.mono hq.size))).1
          try dsimp only
          refine hK.out _ _ ?h133 (fun hHeld => ?_)
          case h133 => first | exact ⟨‹_›, ‹_›⟩ | (simp [*, go_sem])
          clear hK K
          try simp only [Act.put, List.setIfInBounds_toArray, List.set_cons_zero, List.set_cons_succ]
          refine wpAnyH_ready (rs := [5]) (by kernel_rfl) (by simp) ?_
          refine AllReadyH.cons (by simp only [List.getElem?_toArray, List.getElem?_cons_succ, List.getElem?_cons_zero]; exact rfl) (fun K hK => ?_) AllReadyH.nil
          rw [if_pos (by rfl)]
          refine opWp_append1C elI64 _ _ rfl hcp rfl rfl clit rfl (by omega) hbd.size ?_
          intro v3 wy ho3 hk3 hm3
          have hbd := hk3.below hbd hbd.size (fun b hb => (hcp.lt b hb).1)
          have hset : SlI (fun b => wi.heap.size ≤ b ∧ b < wy.heap.size) wy .i64 v3 (bitsI (c ||| bit v)) := (by rw [HSNk.out]; have h2 : Own wy wi.heap.size 2 1 v3 (bitsI c ++ [(v : Int)]).length ((bitsI c ++ [(v : Int)]).map (.int .i64)) := (by simpa using ho3); exact (h2.ints (by simp; omega)).weak fun b hb => h2.lt b hb)
          clear hcp clit ho3 hk3 hm3 e0 e1
          obtain ⟨wd, rfl⟩ : ∃ x, x = wy := ⟨_, rfl⟩
          have e0 := (hbd.cell (cell_lt c1)).trans c1
          have e1 := (HRW.out wd (hq.trans (hbd.mono hq.size))).1
          try dsimp only
          refine hK.out _ _ ?h135 (fun hHeld => ?_)
          case h135 => first | exact ⟨‹_›, ‹_›⟩ | (simp [*, go_sem])
          clear hK K
          try simp only [Act.put, List.setIfInBounds_toArray, List.set_cons_zero, List.set_cons_succ]
          refine wpAnyH_ready (rs := [15]) (by kernel_rfl) (by simp) ?_
          refine AllReadyH.cons (by simp only [List.getElem?_toArray, List.getElem?_cons_succ, List.getElem?_cons_zero]; exact rfl) (fun K hK => ?_) AllReadyH.nil
          go_simp
          refine (l8Meet_any (HL1.out wd (hq.trans (hbd.mono hq.size))) (HRW.out wd (hq.trans (hbd.mono hq.size))).2 (by rw [natsI_len, List.length_drop]; omega)).mono ?_
          rintro e wy ⟨mv, rfl, hmv0, hbn⟩
          rw [HML.out] at hmv0
          have hbe := hbd.size
          have hmv : SlI (fun b => wi.heap.size ≤ b ∧ b < wy.heap.size) wy .i64 mv (bitsI (ok &&& (netsL g).getD v 0)) := (hmv0.ints (by have := bitsI_len (ok &&& (netsL g).getD v 0); omega)).weak fun b hb => ⟨by have := (hmv0.lt b hb).1; omega, (hmv0.lt b hb).2⟩
          have hset := (hset.below hbn (Nat.le_refl _)).weak fun b hb => (show wi.heap.size ≤ b ∧ b < wy.heap.size from ⟨hb.1, Nat.lt_of_lt_of_le hb.2 hbn.size⟩)
          have hbd := hbd.trans (hbn.mono hbd.size)
          clear hbn e0 e1 hmv0 hbe
          obtain ⟨wd, rfl⟩ : ∃ x, x = wy := ⟨_, rfl⟩
          have e0 := (hbd.cell (cell_lt c1)).trans c1
          have e1 := (HRW.out wd (hq.trans (hbd.mono hq.size))).1
          try dsimp only
          refine hK.out _ _ ?h137 (fun hHeld => ?_)
          case h137 => first | exact ⟨‹_›, ‹_›⟩ | (simp [*, go_sem])
          clear hK K
          try simp only [Act.put, List.setIfInBounds_toArray, List.set_cons_zero, List.set_cons_succ]
          refine wpAnyH_ready (rs := [17]) (by kernel_rfl) (by simp) ?_
          refine AllReadyH.cons (by simp only [List.getElem?_toArray, List.getElem?_cons_succ, List.getElem?_cons_zero]; exact rfl) (fun K hK => ?_) AllReadyH.nil
          go_simp
          with_reducible refine (l1Copy_any _ _ _ (HXV.out wd (hq.trans (hbd.mono hq.size))) (by omega)).mono ?_
          rintro e wy ⟨xcv, rfl, hxc, hbn⟩
          obtain ⟨N7, hN7⟩ : ∃ n, n = wd.heap.size := ⟨_, rfl⟩
          rw [← hN7] at hxc
          have hN7i : wi.heap.size ≤ N7 := (by rw [hN7]; exact hbd.size)
          have hN7y : N7 ≤ wy.heap.size := (by rw [hN7]; exact hbn.size)
          have hset := (hset.below hbn (Nat.le_refl _)).weak fun b hb => (show wi.heap.size ≤ b ∧ b < N7 from ⟨hb.1, by rw [hN7]; exact hb.2⟩)
          have hmv := (hmv.below hbn (Nat.le_refl _)).weak fun b hb => (show wi.heap.size ≤ b ∧ b < N7 from ⟨hb.1, by rw [hN7]; exact hb.2⟩)
          have hbd := hbd.trans (hbn.mono hbd.size)
          clear hbn e0 e1 hN7
          obtain ⟨wd, rfl⟩ : ∃ x, x = wy := ⟨_, rfl⟩
          have e0 := (hbd.cell (cell_lt c1)).trans c1
          have e1 := (HRW.out wd (hq.trans (hbd.mono hq.size))).1
          try dsimp only
          refine hK.out _ _ ?h139 (fun hHeld => ?_)
          case h139 => first | exact ⟨‹_›, ‹_›⟩ | (simp [*, go_sem])
          clear hK K
          try simp only [Act.put, List.setIfInBounds_toArray, List.set_cons_zero, List.set_cons_succ]
          refine wpAnyH_ready (rs := [21]) (by kernel_rfl) (by simp) ?_
          refine AllReadyH.cons (by simp only [List.getElem?_toArray, List.getElem?_cons_succ, List.getElem?_cons_zero]; exact rfl) (fun K hK => ?_) AllReadyH.nil
          rw [if_pos (by rfl)]
          refine opWp_appendC elI64 _ _ rfl hxc rfl rfl (HL2.out wd (hq.trans (hbd.mono hq.size))) (by rw [natsI_len]; omega) hN7y ?_
          intro xv2 wy hx2 hk2
          have hkeep : ∀ b, b < N7 → wy.heap[b]? = wd.heap[b]? := fun b hb => hk2.2.2.2.2 b (by omega) (fun e => by have := (hxc.lt b e.symm).1; omega)
          have hset := hset.keep (fun b hb => hkeep b hb.2)
          have hmv := hmv.keep (fun b hb => hkeep b hb.2)
          have hbd := hk2.below hbd hbd.size (fun b hb => by have := (hxc.lt b hb).1; omega)
          have hx3 : SlI (fun b => xv2.ownBlock = some b) wy .i64 xv2 (X ++ natsI (l.take k)) := (by have h2 : Own wy N7 2 1 xv2 (X ++ natsI (l.take k)).length ((X ++ natsI (l.take k)).map (.int .i64)) := (by rw [List.length_append, List.map_append]; exact hx2); exact h2.ints (by rw [HXF.out]; omega))
          clear hxc hx2 hk2 hkeep e0 e1
          obtain ⟨wd, rfl⟩ : ∃ x, x = wy := ⟨_, rfl⟩
          have e0 := (hbd.cell (cell_lt c1)).trans c1
          have e1 := (HRW.out wd (hq.trans (hbd.mono hq.size))).1
          try dsimp only
          refine hK.out _ _ ?h141 (fun hHeld => ?_)
          case h141 => first | exact ⟨‹_›, ‹_›⟩ | (simp [*, go_sem])
          clear hK K
          try simp only [Act.put, List.setIfInBounds_toArray, List.set_cons_zero, List.set_cons_succ]
          refine wpAnyH_ready (rs := [27]) (by kernel_rfl) (by simp) ?_
          refine AllReadyH.cons (by simp only [List.getElem?_toArray, List.getElem?_cons_succ, List.getElem?_cons_zero]; exact rfl) (fun K hK => ?_) AllReadyH.nil
          go_simp
          refine (l8Meet_any hx3 (HRW.out wd (hq.trans (hbd.mono hq.size))).2 (by rw [HXF.out]; omega)).mono ?_
          rintro e wy ⟨xm, rfl, hxm0, hbn⟩
          have hxm := hxm0.ints (by omega)
          have hset := hset.below hbn (Nat.le_refl _)
          have hmv := hmv.below hbn (Nat.le_refl _)
          have hbd := hbd.trans (hbn.mono hbd.size)
          clear hbn e0 e1 hxm0 hx3
          obtain ⟨wd, rfl⟩ : ∃ x, x = wy := ⟨_, rfl⟩
          have e0 := (hbd.cell (cell_lt c1)).trans c1
          have e1 := (HRW.out wd (hq.trans (hbd.mono hq.size))).1
          try dsimp only
          refine hK.out _ _ ?h143 (fun hHeld => ?_)
          case h143 => first | exact ⟨‹_›, ‹_›⟩ | (simp [*, go_sem])
          clear hK K
          try simp only [Act.put, List.setIfInBounds_toArray, List.set_cons_zero, List.set_cons_succ]
          refine wpAnyH_ready (rs := [28]) (by kernel_rfl) (by simp) ?_
          refine AllReadyH.cons (by simp only [List.getElem?_toArray, List.getElem?_cons_succ, List.getElem?_cons_zero]; exact rfl) (fun K hK => ?_) AllReadyH.nil
          go_simp
          refine (HREC.out _ _ _ _ _ _ wd (hq.trans (hbd.mono hq.size)) hset hmv hxm).mono ?_
          rintro e wy ⟨mo, rfl, hmo, hbn⟩
          have hbz := hbd.size
          have hmo2 : RowsC wy wd.heap.size (fun b => wi.heap.size ≤ b ∧ b < N7) 38 mo (L2.map bitsI) := hmo
          have hbd := hbd.trans (hbn.mono hbd.size)
          obtain ⟨N8, hN8⟩ : ∃ n, n = wd.heap.size := ⟨_, rfl⟩
          rw [← hN8] at hmo2
          have hN8i : wi.heap.size ≤ N8 := (by rw [hN8]; exact hbz)
          clear hbn e0 e1 hmo hN8 hbz hset hmv hxm
          obtain ⟨wd, rfl⟩ : ∃ x, x = wy := ⟨_, rfl⟩
          have e0 := (hbd.cell (cell_lt c1)).trans c1
          have e1 := (HRW.out wd (hq.trans (hbd.mono hq.size))).1
          try dsimp only
          refine hK.out _ _ ?h145 (fun hHeld => ?_)
          case h145 => first | exact ⟨‹_›, ‹_›⟩ | (simp [*, go_sem])
          clear hK K
          try simp only [Act.put, List.setIfInBounds_toArray, List.set_cons_zero, List.set_cons_succ]
          refine wpAnyH_take (i := 29) (v := ?v146) (by simp only [List.getElem?_toArray, List.getElem?_cons_succ, List.getElem?_cons_zero]; exact rfl) (by kernel_rfl) (by kernel_rfl) (by kernel_rfl) (by intro _ _ _ h; exact h) (Or.inl ⟨by rfl, ?y146⟩) hHeld ?_
          case y146 => (intro w hSw; (try dsimp only at hSw); go_simp; try (with_reducible rfl))
          try simp only [Act.put, List.setIfInBounds_toArray, List.set_cons_zero, List.set_cons_succ]
          refine wpAnyH_done (by kernel_rfl) ?_ _
          have hwi1 : w.heap.size + 1 ≤ wi.heap.size := cell_lt c1
          have hqy := hq.trans (hbd.mono hq.size)
          have HF2 := Lib.hid hF
          obtain ⟨vs, h1, h2, h3⟩ := hF
          have hfb := h2.lt
          obtain ⟨us, m1, m2, m3⟩ := hmo2
          rw [List.length_map] at h1 h2 m1 m2
          have h2y := h2.below hbd (Nat.le_refl _)
          have hby := hbd.size
          have hrows : ∀ i (h : i < (F.map bitsI).length) (h2 : i < vs.length), SlI (OffB wd (w.heap.size + 1) (.slice fa F.length fc)) wd .i64 vs[i] (F.map bitsI)[i] := fun i hi hi2 => ((h3 i hi hi2).below hbd (Nat.le_refl _)).weak fun b hb => ⟨hb.1, Nat.lt_of_lt_of_le hb.2.1 hby, hb.2.2⟩
          have hnews : ∀ i (h : i < (L2.map bitsI).length) (h2 : i < us.length), SlI (OffB wd (w.heap.size + 1) (.slice fa F.length fc)) wd .i64 us[i] (L2.map bitsI)[i] := fun i hi hi2 => (m3 i hi hi2).weak fun b hb => ⟨by rcases hb.1 with hb1 | hb1 <;> omega, hb.2.1, fun e => by have := (hfb b e).2; rcases hb.1 with hb1 | hb1 <;> omega⟩
          have hone : ∀ y ∈ us, y.oneCell' = true := fun y hy => by obtain ⟨i, hi, rfl⟩ := List.getElem_of_mem hy; obtain ⟨a', c', e'⟩ := (m3 i (by rw [List.length_map]; omega) hi).slice; rw [e']; rfl
          clear hHeld
          have HL22 := Lib.hid HLK2.out
          obtain ⟨ma, mcc, rfl⟩ := m2.isSlice
          have hlt5 : F.length + L2.length ≤ 1099511627 := (by omega)
          have hbs5 : w.heap.size + 1 ≤ wd.heap.size := (by omega)
          go_wp2_with (at_builtin; refine wpList_appendOM elRows rfl _ _ rfl h2y rfl m2 rfl hone hlt5 hbs5 ?_; intro v5 w5 h5 g5 mv5; obtain ⟨a5, c5, rfl⟩ := h5.isSlice)
          have hOS := OwnS.app (by rw [List.length_map]; omega) (by rw [List.length_map]; omega) hrows hnews (by rw [List.length_map, List.length_map]; exact h5) g5 mv5 (Nat.le_refl _)
          have hb5 := KeptBut.below g5 (Below.refl (w.heap.size + 1) wd) hbs5 (fun b hb => (hfb b hb).1)
          have hq5 := hqy.trans (hb5.mono (Nat.le_succ _))
          have e5 := (hb5.cell (p := ⟨w.heap.size, 0, none⟩) (Nat.lt_succ_self _)).trans e0
          rw [← List.map_append] at hOS
          clear hrows hnews hone h1 h2 h3 m1 m2 m3 h2y g5 mv5 h5 hfb
          go_roundw
          case rel => exact ⟨k + 1, andN ok (bit v), F ++ L2, a5, c5, by omega, by go_num, hok2, HSU2, HTL2, HLK2, by rw [List.length_append], by rw [List.length_append]; exact hLb, by rw [List.length_append]; exact hOS, hq5, e5⟩
          case measure => (simp [RowKit.intOf]; omega)
        case b130_4 =>
          go_simp
          obtain ⟨nb, hnb⟩ : ∃ nb, nb = wd.heap.size := ⟨_, rfl⟩
          rw [← hnb]
          have hbn : Below wd.heap.size wd (wd.alloc (.cells #[.int .i64 (v : Int)] 2)) := (Below.refl _ _).alloc (Nat.le_refl _) _
          have clit : (wd.alloc (.cells #[.int .i64 (v : Int)] 2)).cell? ⟨nb, 0, none⟩ = some (.int .i64 (v : Int)) := (by rw [hnb]; simp [go_sem])
          try have hcp := hcp.below hbn (Nat.le_refl _)
          have hbd := hbd.trans (hbn.mono hbd.size)
          clear hnb hbn e0 e1
          first | generalize wd.alloc (.cells #[.int .i64 (v : Int)] 2) = wy at clit hbd hcp ⊢ | generalize wd.alloc (.cells #[.int .i64 (v : Int)] 2) = wy at clit hbd ⊢
          obtain ⟨wd, rfl⟩ : ∃ x, x = wy := ⟨_, rfl⟩
          have e0 := (hbd.cell (cell_lt c1)).trans c1
          have e1 := (HRW.out wd (hq.trans (hbd.mono hq.size))).1
          try dsimp only
          refine hK.out _ _ ?h147 (fun hHeld => ?_)
          case h147 => first | exact ⟨‹_›, ‹_›⟩ | (simp [*, go_sem])
          clear hK K
          try simp only [Act.put, List.setIfInBounds_toArray, List.set_cons_zero, List.set_cons_succ]
          refine wpAnyH_ready (rs := [2]) (by kernel_rfl) (by simp) ?_
          refine AllReadyH.cons (by simp only [List.getElem?_toArray, List.getElem?_cons_succ, List.getElem?_cons_zero]; exact rfl) (fun K hK => ?_) AllReadyH.nil
          go_simp
          with_reducible refine (l1Copy_any _ _ _ (HSV.out wd (hq.trans (hbd.mono hq.size))) (by omega)).mono ?_
          rintro e wy ⟨cv, rfl, hcv0, hbn⟩
          have hcp := hcv0.weak (show wi.heap.size ≤ wd.heap.size from hbd.size)
          clear hcv0
          try have clit := (hbn.cell (cell_lt clit)).trans clit
          have hbd := hbd.trans (hbn.mono hbd.size)
          clear hbn e0 e1
          obtain ⟨wd, rfl⟩ : ∃ x, x = wy := ⟨_, rfl⟩
          have e0 := (hbd.cell (cell_lt c1)).trans c1
          have e1 := (HRW.out wd (hq.trans (hbd.mono hq.size))).1
          try dsimp only
          refine hK.out _ _ ?h149 (fun hHeld => ?_)
          case h149 => first | exact ⟨‹_›, ‹_›⟩ | (simp [*, go_sem])
          clear hK K
          try simp only [Act.put, List.setIfInBounds_toArray, List.set_cons_zero, List.set_cons_succ]
          refine wpAnyH_ready (rs := [5]) (by kernel_rfl) (by simp) ?_
          refine AllReadyH.cons (by simp only [List.getElem?_toArray, List.getElem?_cons_succ, List.getElem?_cons_zero]; exact rfl) (fun K hK => ?_) AllReadyH.nil
          rw [if_pos (by rfl)]
          refine opWp_append1C elI64 _ _ rfl hcp rfl rfl clit rfl (by omega) hbd.size ?_
          intro v3 wy ho3 hk3 hm3
          have hbd := hk3.below hbd hbd.size (fun b hb => (hcp.lt b hb).1)
          have hset : SlI (fun b => wi.heap.size ≤ b ∧ b < wy.heap.size) wy .i64 v3 (bitsI (c ||| bit v)) := (by rw [HSNk.out]; have h2 : Own wy wi.heap.size 2 1 v3 (bitsI c ++ [(v : Int)]).length ((bitsI c ++ [(v : Int)]).map (.int .i64)) := (by simpa using ho3); exact (h2.ints (by simp; omega)).weak fun b hb => h2.lt b hb)
          clear hcp clit ho3 hk3 hm3 e0 e1
          obtain ⟨wd, rfl⟩ : ∃ x, x = wy := ⟨_, rfl⟩
          have e0 := (hbd.cell (cell_lt c1)).trans c1
          have e1 := (HRW.out wd (hq.trans (hbd.mono hq.size))).1
          try dsimp only
          refine hK.out _ _ ?h151 (fun hHeld => ?_)
          case h151 => first | exact ⟨‹_›, ‹_›⟩ | (simp [*, go_sem])
          clear hK K
          try simp only [Act.put, List.setIfInBounds_toArray, List.set_cons_zero, List.set_cons_succ]
          refine wpAnyH_ready (rs := [15]) (by kernel_rfl) (by simp) ?_
          refine AllReadyH.cons (by simp only [List.getElem?_toArray, List.getElem?_cons_succ, List.getElem?_cons_zero]; exact rfl) (fun K hK => ?_) AllReadyH.nil
          go_simp
          refine (l8Meet_any (HL1.out wd (hq.trans (hbd.mono hq.size))) (HRW.out wd (hq.trans (hbd.mono hq.size))).2 (by rw [natsI_len, List.length_drop]; omega)).mono ?_
          rintro e wy ⟨mv, rfl, hmv0, hbn⟩
          rw [HML.out] at hmv0
          have hbe := hbd.size
          have hmv : SlI (fun b => wi.heap.size ≤ b ∧ b < wy.heap.size) wy .i64 mv (bitsI (ok &&& (netsL g).getD v 0)) := (hmv0.ints (by have := bitsI_len (ok &&& (netsL g).getD v 0); omega)).weak fun b hb => ⟨by have := (hmv0.lt b hb).1; omega, (hmv0.lt b hb).2⟩
          have hset := (hset.below hbn (Nat.le_refl _)).weak fun b hb => (show wi.heap.size ≤ b ∧ b < wy.heap.size from ⟨hb.1, Nat.lt_of_lt_of_le hb.2 hbn.size⟩)
          have hbd := hbd.trans (hbn.mono hbd.size)
          clear hbn e0 e1 hmv0 hbe
          obtain ⟨wd, rfl⟩ : ∃ x, x = wy := ⟨_, rfl⟩
          have e0 := (hbd.cell (cell_lt c1)).trans c1
          have e1 := (HRW.out wd (hq.trans (hbd.mono hq.size))).1
          try dsimp only
          refine hK.out _ _ ?h153 (fun hHeld => ?_)
          case h153 => first | exact ⟨‹_›, ‹_›⟩ | (simp [*, go_sem])
          clear hK K
          try simp only [Act.put, List.setIfInBounds_toArray, List.set_cons_zero, List.set_cons_succ]
          refine wpAnyH_ready (rs := [17]) (by kernel_rfl) (by simp) ?_
          refine AllReadyH.cons (by simp only [List.getElem?_toArray, List.getElem?_cons_succ, List.getElem?_cons_zero]; exact rfl) (fun K hK => ?_) AllReadyH.nil
          go_simp
          with_reducible refine (l1Copy_any _ _ _ (HXV.out wd (hq.trans (hbd.mono hq.size))) (by omega)).mono ?_
          rintro e wy ⟨xcv, rfl, hxc, hbn⟩
          obtain ⟨N7, hN7⟩ : ∃ n, n = wd.heap.size := ⟨_, rfl⟩
          rw [← hN7] at hxc
          have hN7i : wi.heap.size ≤ N7 := (by rw [hN7]; exact hbd.size)
          have hN7y : N7 ≤ wy.heap.size := (by rw [hN7]; exact hbn.size)
          have hset := (hset.below hbn (Nat.le_refl _)).weak fun b hb => (show wi.heap.size ≤ b ∧ b < N7 from ⟨hb.1, by rw [hN7]; exact hb.2⟩)
          have hmv := (hmv.below hbn (Nat.le_refl _)).weak fun b hb => (show wi.heap.size ≤ b ∧ b < N7 from ⟨hb.1, by rw [hN7]; exact hb.2⟩)
          have hbd := hbd.trans (hbn.mono hbd.size)
          clear hbn e0 e1 hN7
          obtain ⟨wd, rfl⟩ : ∃ x, x = wy := ⟨_, rfl⟩
          have e0 := (hbd.cell (cell_lt c1)).trans c1
          have e1 := (HRW.out wd (hq.trans (hbd.mono hq.size))).1
          try dsimp only
          refine hK.out _ _ ?h155 (fun hHeld => ?_)
          case h155 => first | exact ⟨‹_›, ‹_›⟩ | (simp [*, go_sem])
          clear hK K
          try simp only [Act.put, List.setIfInBounds_toArray, List.set_cons_zero, List.set_cons_succ]
          refine wpAnyH_ready (rs := [21]) (by kernel_rfl) (by simp) ?_
          refine AllReadyH.cons (by simp only [List.getElem?_toArray, List.getElem?_cons_succ, List.getElem?_cons_zero]; exact rfl) (fun K hK => ?_) AllReadyH.nil
          rw [if_pos (by rfl)]
          refine opWp_appendC elI64 _ _ rfl hxc rfl rfl (HL2.out wd (hq.trans (hbd.mono hq.size))) (by rw [natsI_len]; omega) hN7y ?_
          intro xv2 wy hx2 hk2
          have hkeep : ∀ b, b < N7 → wy.heap[b]? = wd.heap[b]? := fun b hb => hk2.2.2.2.2 b (by omega) (fun e => by have := (hxc.lt b e.symm).1; omega)
          have hset := hset.keep (fun b hb => hkeep b hb.2)
          have hmv := hmv.keep (fun b hb => hkeep b hb.2)
          have hbd := hk2.below hbd hbd.size (fun b hb => by have := (hxc.lt b hb).1; omega)
          have hx3 : SlI (fun b => xv2.ownBlock = some b) wy .i64 xv2 (X ++ natsI (l.take k)) := (by have h2 : Own wy N7 2 1 xv2 (X ++ natsI (l.take k)).length ((X ++ natsI (l.take k)).map (.int .i64)) := (by rw [List.length_append, List.map_append]; exact hx2); exact h2.ints (by rw [HXF.out]; omega))
          clear hxc hx2 hk2 hkeep e0 e1
          obtain ⟨wd, rfl⟩ : ∃ x, x = wy := ⟨_, rfl⟩
          have e0 := (hbd.cell (cell_lt c1)).trans c1
          have e1 := (HRW.out wd (hq.trans (hbd.mono hq.size))).1
          try dsimp only
          refine hK.out _ _ ?h157 (fun hHeld => ?_)
          case h157 => first | exact ⟨‹_›, ‹_›⟩ | (simp [*, go_sem])
          clear hK K
          try simp only [Act.put, List.setIfInBounds_toArray, List.set_cons_zero, List.set_cons_succ]
          refine wpAnyH_ready (rs := [27]) (by kernel_rfl) (by simp) ?_
          refine AllReadyH.cons (by simp only [List.getElem?_toArray, List.getElem?_cons_succ, List.getElem?_cons_zero]; exact rfl) (fun K hK => ?_) AllReadyH.nil
          go_simp
          refine (l8Meet_any hx3 (HRW.out wd (hq.trans (hbd.mono hq.size))).2 (by rw [HXF.out]; omega)).mono ?_
          rintro e wy ⟨xm, rfl, hxm0, hbn⟩
          have hxm := hxm0.ints (by omega)
          have hset := hset.below hbn (Nat.le_refl _)
          have hmv := hmv.below hbn (Nat.le_refl _)
          have hbd := hbd.trans (hbn.mono hbd.size)
          clear hbn e0 e1 hxm0 hx3
          obtain ⟨wd, rfl⟩ : ∃ x, x = wy := ⟨_, rfl⟩
          have e0 := (hbd.cell (cell_lt c1)).trans c1
          have e1 := (HRW.out wd (hq.trans (hbd.mono hq.size))).1
          try dsimp only
          refine hK.out _ _ ?h159 (fun hHeld => ?_)
          case h159 => first | exact ⟨‹_›, ‹_›⟩ | (simp [*, go_sem])
          clear hK K
          try simp only [Act.put, List.setIfInBounds_toArray, List.set_cons_zero, List.set_cons_succ]
          refine wpAnyH_ready (rs := [28]) (by kernel_rfl) (by simp) ?_
          refine AllReadyH.cons (by simp only [List.getElem?_toArray, List.getElem?_cons_succ, List.getElem?_cons_zero]; exact rfl) (fun K hK => ?_) AllReadyH.nil
          go_simp
          refine (HREC.out _ _ _ _ _ _ wd (hq.trans (hbd.mono hq.size)) hset hmv hxm).mono ?_
          rintro e wy ⟨mo, rfl, hmo, hbn⟩
          have hbz := hbd.size
          have hmo2 : RowsC wy wd.heap.size (fun b => wi.heap.size ≤ b ∧ b < N7) 38 mo (L2.map bitsI) := hmo
          have hbd := hbd.trans (hbn.mono hbd.size)
          obtain ⟨N8, hN8⟩ : ∃ n, n = wd.heap.size := ⟨_, rfl⟩
          rw [← hN8] at hmo2
          have hN8i : wi.heap.size ≤ N8 := (by rw [hN8]; exact hbz)
          clear hbn e0 e1 hmo hN8 hbz hset hmv hxm
          obtain ⟨wd, rfl⟩ : ∃ x, x = wy := ⟨_, rfl⟩
          have e0 := (hbd.cell (cell_lt c1)).trans c1
          have e1 := (HRW.out wd (hq.trans (hbd.mono hq.size))).1
          try dsimp only
          refine hK.out _ _ ?h161 (fun hHeld => ?_)
          case h161 => first | exact ⟨‹_›, ‹_›⟩ | (simp [*, go_sem])
          clear hK K
          try simp only [Act.put, List.setIfInBounds_toArray, List.set_cons_zero, List.set_cons_succ]
          refine wpAnyH_take (i := 29) (v := ?v162) (by simp only [List.getElem?_toArray, List.getElem?_cons_succ, List.getElem?_cons_zero]; exact rfl) (by kernel_rfl) (by kernel_rfl) (by kernel_rfl) (by intro _ _ _ h; exact h) (Or.inl ⟨by rfl, ?y162⟩) hHeld ?_
          case y162 => (intro w hSw; (try dsimp only at hSw); go_simp; try (with_reducible rfl))
          try simp only [Act.put, List.setIfInBounds_toArray, List.set_cons_zero, List.set_cons_succ]
          refine wpAnyH_done (by kernel_rfl) ?_ _
          have hwi1 : w.heap.size + 1 ≤ wi.heap.size := cell_lt c1
          have hqy := hq.trans (hbd.mono hq.size)
          have HF2 := Lib.hid hF
          obtain ⟨vs, h1, h2, h3⟩ := hF
          have hfb := h2.lt
          obtain ⟨us, m1, m2, m3⟩ := hmo2
          rw [List.length_map] at h1 h2 m1 m2
          have h2y := h2.below hbd (Nat.le_refl _)
          have hby := hbd.size
          have hrows : ∀ i (h : i < (F.map bitsI).length) (h2 : i < vs.length), SlI (OffB wd (w.heap.size + 1) (.slice fa F.length fc)) wd .i64 vs[i] (F.map bitsI)[i] := fun i hi hi2 => ((h3 i hi hi2).below hbd (Nat.le_refl _)).weak fun b hb => ⟨hb.1, Nat.lt_of_lt_of_le hb.2.1 hby, hb.2.2⟩
          have hnews : ∀ i (h : i < (L2.map bitsI).length) (h2 : i < us.length), SlI (OffB wd (w.heap.size + 1) (.slice fa F.length fc)) wd .i64 us[i] (L2.map bitsI)[i] := fun i hi hi2 => (m3 i hi hi2).weak fun b hb => ⟨by rcases hb.1 with hb1 | hb1 <;> omega, hb.2.1, fun e => by have := (hfb b e).2; rcases hb.1 with hb1 | hb1 <;> omega⟩
          have hone : ∀ y ∈ us, y.oneCell' = true := fun y hy => by obtain ⟨i, hi, rfl⟩ := List.getElem_of_mem hy; obtain ⟨a', c', e'⟩ := (m3 i (by rw [List.length_map]; omega) hi).slice; rw [e']; rfl
          clear hHeld
          have HL22 := Lib.hid HLK2.out
          obtain ⟨ma, mcc, rfl⟩ := m2.isSlice
          have hlt5 : F.length + L2.length ≤ 1099511627 := (by omega)
          have hbs5 : w.heap.size + 1 ≤ wd.heap.size := (by omega)
          go_wp2_with (at_builtin; refine wpList_appendOM elRows rfl _ _ rfl h2y rfl m2 rfl hone hlt5 hbs5 ?_; intro v5 w5 h5 g5 mv5; obtain ⟨a5, c5, rfl⟩ := h5.isSlice)
          have hOS := OwnS.app (by rw [List.length_map]; omega) (by rw [List.length_map]; omega) hrows hnews (by rw [List.length_map, List.length_map]; exact h5) g5 mv5 (Nat.le_refl _)
          have hb5 := KeptBut.below g5 (Below.refl (w.heap.size + 1) wd) hbs5 (fun b hb => (hfb b hb).1)
          have hq5 := hqy.trans (hb5.mono (Nat.le_succ _))
          have e5 := (hb5.cell (p := ⟨w.heap.size, 0, none⟩) (Nat.lt_succ_self _)).trans e0
          rw [← List.map_append] at hOS
          clear hrows hnews hone h1 h2 h3 m1 m2 m3 h2y g5 mv5 h5 hfb
          go_roundw
          case rel => exact ⟨k + 1, andN ok (bit v), F ++ L2, a5, c5, by omega, by go_num, hok2, HSU2, HTL2, HLK2, by rw [List.length_append], by rw [List.length_append]; exact hLb, by rw [List.length_append]; exact hOS, hq5, e5⟩
          case measure => (simp [RowKit.intOf]; omega)
theorem SlI.lit0V (w : World) : SlI (fun b => b = w.heap.size) (w.alloc (.cells #[] 2)) .i64 (.slice (some ⟨w.heap.size, 0, none⟩) 0 0) [] := by
  have ha1 : Own (w.alloc (.cells #[] 2)) w.heap.size 2 1 (.slice (some ⟨w.heap.size, 0, none⟩) 0 0) ([] : List Int).length (([] : List Int).map (.int .i64)) := by
    have := World.ownsRow_lit (base := w.heap.size) (e := 2) (size := 1) w #[] 0 (Nat.le_refl _) (by unfold maxLen; omega) rfl
    simpa [Own] using this
  exact (Own.ints ha1 (by simp)).weak fun b hb => (Option.some.inj hb).symm
theorem bits_firstV {n : Nat} (hn : n ≤ 16) : bitsI (firstN n) = natsI (List.range n) := by
  refine sorted_ext (bitsI_sorted _) (by unfold natsI; rw [List.pairwise_map]; exact List.pairwise_lt_range.imp fun h => by omega) fun x => ?_
  rw [mem_bits_firstN hn]
  unfold natsI
  simp only [List.mem_map, List.mem_range]
  constructor
  · rintro ⟨h1, h2⟩; exact ⟨x.toNat, by omega, by omega⟩
  · rintro ⟨a, h1, rfl⟩; omega
set_option maxHeartbeats 2000000 in
theorem specCliquesOf_any {S : Nat → Prop} {v : Value} {g : List (List Int)} {w : World} (hg : GOk g) (hv : SlR S w v g) :
    Calls Tryd.prog 46 #[.agg #[v]] w fun e w' => ∃ u, e = .returned u ∧ SlR (fun b => w.heap.size ≤ b) w' u ((clqs (netsL g)).map bitsI) ∧ Below w.heap.size w w' := by
  have hq0 : Below w.heap.size w (w.alloc (.cells #[v] 29)) := (Below.refl _ _).alloc (Nat.le_refl _) _
  have hgo := specGraphOk_any _ _ _ (hv.below hq0 (Nat.le_refl _))
  rw [gokB_iff.2 hg] at hgo
  have HV := Lib.hid (fun (W : World) (hb : Below w.heap.size w W) => hv.below hb (Nat.le_refl _))
  have HSZ := Lib.hid (fun (W : World) (hb : Below w.heap.size w W) => l1SizeC_any (HV.out W hb))
  have h16 := hg.hi
  have hnl := netsL_len g
  have HALL := Lib.hid (fun (W : World) => l1All_any (n := g.length) (w := W) h16)
  have HCL := Lib.hid (fun (S1 S2 S3 : Nat → Prop) (sv lv xv : Value) (W : World) (hb : Below w.heap.size w W) (h1 : SlI S1 W .i64 sv []) (h2 : SlI S2 W .i64 lv (natsI (List.range g.length))) (h3 : SlI S3 W .i64 xv []) =>
    show Calls Tryd.prog 82 #[.agg #[v], sv, lv, xv] W fun e w' => ∃ u, e = .returned u ∧ RowsC w' W.heap.size S1 38 u ((clqs (netsL g)).map bitsI) ∧ Below W.heap.size W w' from by
    have h := l8Cliques_any hg 33 0 (firstN g.length) [] S1 S2 S3 sv lv xv W (HV.out W hb) (by rw [show bitsI 0 = [] from rfl]; exact h1) (by rw [bits_firstV h16]; exact h2) h3 (fun y hy => by cases hy) (by simp) (by have := popN_firstN h16; omega) (Nat.two_pow_pos _) (by have := Nat.two_pow_pos g.length; unfold firstN; omega) (fun i j hi => by simp at hi) (by have := clqs_len16 hg; unfold clqs at this; rw [hnl] at this; exact Nat.le_trans this (by omega))
    unfold clqs
    rw [hnl]
    exact h)
  have hcl16 := clqs_len16 hg
  obtain ⟨va, vc, rfl⟩ := hv.slice
  have c0 : (w.alloc (.cells #[.slice va g.length vc] 29)).cell? ⟨w.heap.size, 0, none⟩ = some (.slice va g.length vc) := by simp [go_sem]
  clear hg hnl hv
  go_enter Tryd.func46, Tryd.ntmps46
  go_wp2_with fail
  refine hgo.mono ?_
  rintro e w1 ⟨rfl, hb1⟩
  have hq1 := hq0.trans (hb1.mono hq0.size)
  have c1 := (hb1.cell (cell_lt c0)).trans c0
  clear hgo hq0 c0 hb1
  obtain ⟨wi, rfl⟩ : ∃ x : World, x = w1 := ⟨_, rfl⟩
  go_wp2
  refine wp_region_held_drew (S := (fun w' => w'.cell? ⟨w.heap.size, 0, none⟩ = some (.slice va g.length vc))) (by kernel_rfl) ?_ (fun hHeld => ?_)
  · first | exact ‹_› | (simp [*, go_sem])
  have hbd : Below wi.heap.size wi wi.drew := ((Drawn.refl _).drew).below _
  generalize wi.drew = wd at hbd hHeld ⊢
  have e0 := hHeld
  refine wpAnyH_take (i := 0) (v := ?v163) (by simp only [List.getElem?_toArray, List.getElem?_cons_zero]; exact rfl) (by kernel_rfl) (by kernel_rfl) (by kernel_rfl) (by intro _ _ _ h; exact h) (Or.inl ⟨by rfl, ?y163⟩) hHeld ?_
  case y163 => (intro w hSw; (try dsimp only at hSw); go_simp; try (with_reducible rfl))
  try simp only [Act.put, List.setIfInBounds_toArray, List.set_cons_zero, List.set_cons_succ]
  refine wpAnyH_take (i := 2) (v := ?v164) (by simp only [List.getElem?_toArray, List.getElem?_cons_succ, List.getElem?_cons_zero]; exact rfl) (by kernel_rfl) (by kernel_rfl) (by kernel_rfl) (by intro _ _ _ h; exact h) (Or.inl ⟨by rfl, ?y164⟩) hHeld ?_
  case y164 => (intro w hSw; (try dsimp only at hSw); go_simp; try (with_reducible rfl))
  try simp only [Act.put, List.setIfInBounds_toArray, List.set_cons_zero, List.set_cons_succ]
  refine wpAnyH_ready (rs := [1, 3, 5]) (by kernel_rfl) (by simp) ?_
  refine (AllReadyH.cons (by simp only [List.getElem?_toArray, List.getElem?_cons_succ, List.getElem?_cons_zero]; exact rfl) (fun K hK => ?b165_1) (AllReadyH.cons (by simp only [List.getElem?_toArray, List.getElem?_cons_succ, List.getElem?_cons_zero]; exact rfl) (fun K hK => ?b165_3) (AllReadyH.cons (by simp only [List.getElem?_toArray, List.getElem?_cons_succ, List.getElem?_cons_zero]; exact rfl) (fun K hK => ?b165_5) AllReadyH.nil)))
  case b165_1 =>
    go_simp
    obtain ⟨nb, hnb⟩ : ∃ nb, nb = wd.heap.size := ⟨_, rfl⟩
    rw [← hnb]
    have hnw : wi.heap.size ≤ nb := (by rw [hnb]; exact hbd.size)
    have hbn : Below wd.heap.size wd (wd.alloc (.cells #[] 2)) := (Below.refl _ _).alloc (Nat.le_refl _) _
    have ha : SlI (fun b => wi.heap.size ≤ b) (wd.alloc (.cells #[] 2)) .i64 (.slice (some ⟨nb, 0, none⟩) 0 0) [] := (by rw [hnb]; exact (SlI.lit0V wd).weak fun b hb => by rw [hb, ← hnb]; exact hnw)
    try have hl := hl.below hbn (Nat.le_refl _)
    try have hx := hx.below hbn (Nat.le_refl _)
    have hbd := hbd.trans (hbn.mono hbd.size)
    clear hnb hbn hnw e0
    generalize wd.alloc (.cells #[] 2) = wy at *
    obtain ⟨wd, rfl⟩ : ∃ x, x = wy := ⟨_, rfl⟩
    have e0 := (hbd.cell (cell_lt c1)).trans c1
    try dsimp only
    refine hK.out _ _ ?h166 (fun hHeld => ?_)
    case h166 => first | exact ‹_› | (simp [*, go_sem])
    clear hK K
    try simp only [Act.put, List.setIfInBounds_toArray, List.set_cons_zero, List.set_cons_succ]
    refine wpAnyH_ready (rs := [3, 5]) (by kernel_rfl) (by simp) ?_
    refine (AllReadyH.cons (by simp only [List.getElem?_toArray, List.getElem?_cons_succ, List.getElem?_cons_zero]; exact rfl) (fun K hK => ?b167_3) (AllReadyH.cons (by simp only [List.getElem?_toArray, List.getElem?_cons_succ, List.getElem?_cons_zero]; exact rfl) (fun K hK => ?b167_5) AllReadyH.nil))
    case b167_3 =>
      go_simp
      refine (HSZ.out wd (hq1.trans (hbd.mono hq1.size))).mono ?_
      rintro e wy ⟨rfl, hb5⟩
      try have ha := ha.below hb5 (Nat.le_refl _)
      try have hl := hl.below hb5 (Nat.le_refl _)
      try have hx := hx.below hb5 (Nat.le_refl _)
      have hbd := hbd.trans (hb5.mono hbd.size)
      clear hb5 e0
      obtain ⟨wd, rfl⟩ : ∃ x, x = wy := ⟨_, rfl⟩
      have e0 := (hbd.cell (cell_lt c1)).trans c1
      try dsimp only
      refine hK.out _ _ ?h168 (fun hHeld => ?_)
      case h168 => first | exact ‹_› | (simp [*, go_sem])
      clear hK K
      try simp only [Act.put, List.setIfInBounds_toArray, List.set_cons_zero, List.set_cons_succ]
      refine wpAnyH_ready (rs := [4, 5]) (by kernel_rfl) (by simp) ?_
      refine (AllReadyH.cons (by simp only [List.getElem?_toArray, List.getElem?_cons_succ, List.getElem?_cons_zero]; exact rfl) (fun K hK => ?b169_4) (AllReadyH.cons (by simp only [List.getElem?_toArray, List.getElem?_cons_succ, List.getElem?_cons_zero]; exact rfl) (fun K hK => ?b169_5) AllReadyH.nil))
      case b169_4 =>
        go_simp
        refine (HALL.out wd).mono ?_
        rintro e wy ⟨lv, rfl, hl0, hb5⟩
        have hl := hl0.ints (by simp [natsI]; omega)
        try have ha := ha.below hb5 (Nat.le_refl _)
        try have hx := hx.below hb5 (Nat.le_refl _)
        have hbd := hbd.trans (hb5.mono hbd.size)
        clear hb5 e0 hl0
        obtain ⟨wd, rfl⟩ : ∃ x, x = wy := ⟨_, rfl⟩
        have e0 := (hbd.cell (cell_lt c1)).trans c1
        try dsimp only
        refine hK.out _ _ ?h170 (fun hHeld => ?_)
        case h170 => first | exact ‹_› | (simp [*, go_sem])
        clear hK K
        try simp only [Act.put, List.setIfInBounds_toArray, List.set_cons_zero, List.set_cons_succ]
        refine wpAnyH_ready (rs := [5]) (by kernel_rfl) (by simp) ?_
        refine AllReadyH.cons (by simp only [List.getElem?_toArray, List.getElem?_cons_succ, List.getElem?_cons_zero]; exact rfl) (fun K hK => ?_) AllReadyH.nil
        go_simp
        obtain ⟨nb, hnb⟩ : ∃ nb, nb = wd.heap.size := ⟨_, rfl⟩
        rw [← hnb]
        have hnw : wi.heap.size ≤ nb := (by rw [hnb]; exact hbd.size)
        have hbn : Below wd.heap.size wd (wd.alloc (.cells #[] 2)) := (Below.refl _ _).alloc (Nat.le_refl _) _
        have hx : SlI (fun b => wi.heap.size ≤ b) (wd.alloc (.cells #[] 2)) .i64 (.slice (some ⟨nb, 0, none⟩) 0 0) [] := (by rw [hnb]; exact (SlI.lit0V wd).weak fun b hb => by rw [hb, ← hnb]; exact hnw)
        try have ha := ha.below hbn (Nat.le_refl _)
        try have hl := hl.below hbn (Nat.le_refl _)
        have hbd := hbd.trans (hbn.mono hbd.size)
        clear hnb hbn hnw e0
        generalize wd.alloc (.cells #[] 2) = wy at *
        obtain ⟨wd, rfl⟩ : ∃ x, x = wy := ⟨_, rfl⟩
        have e0 := (hbd.cell (cell_lt c1)).trans c1
        try dsimp only
        refine hK.out _ _ ?h172 (fun hHeld => ?_)
        case h172 => first | exact ‹_› | (simp [*, go_sem])
        clear hK K
        try simp only [Act.put, List.setIfInBounds_toArray, List.set_cons_zero, List.set_cons_succ]
        refine wpAnyH_ready (rs := [6]) (by kernel_rfl) (by simp) ?_
        refine AllReadyH.cons (by simp only [List.getElem?_toArray, List.getElem?_cons_succ, List.getElem?_cons_zero]; exact rfl) (fun K hK => ?_) AllReadyH.nil
        go_simp
        refine (HCL.out _ _ _ _ _ _ wd (hq1.trans (hbd.mono hq1.size)) ha hl hx).mono ?_
        rintro e wy ⟨u, rfl, hu, hb5⟩
        have hbz := hbd.size
        have hbd := hbd.trans (hb5.mono hbd.size)
        obtain ⟨N8, hN8⟩ : ∃ n, n = wd.heap.size := ⟨_, rfl⟩
        rw [← hN8] at hu
        have hN8i : wi.heap.size ≤ N8 := (by rw [hN8]; exact hbz)
        clear hb5 e0 hN8 hbz
        obtain ⟨wd, rfl⟩ : ∃ x, x = wy := ⟨_, rfl⟩
        have e0 := (hbd.cell (cell_lt c1)).trans c1
        try dsimp only
        refine hK.out _ _ ?h174 (fun hHeld => ?_)
        case h174 => first | exact ‹_› | (simp [*, go_sem])
        clear hK K
        try simp only [Act.put, List.setIfInBounds_toArray, List.set_cons_zero, List.set_cons_succ]
        refine wpAnyH_take (i := 7) (v := ?v175) (by simp only [List.getElem?_toArray, List.getElem?_cons_succ, List.getElem?_cons_zero]; exact rfl) (by kernel_rfl) (by kernel_rfl) (by kernel_rfl) (by intro _ _ _ h; exact h) (Or.inl ⟨by rfl, ?y175⟩) hHeld ?_
        case y175 => (intro w hSw; (try dsimp only at hSw); go_simp; try (with_reducible rfl))
        try simp only [Act.put, List.setIfInBounds_toArray, List.set_cons_zero, List.set_cons_succ]
        refine wpAnyH_done (by kernel_rfl) ?_ _
        have hq5 := hq1.trans (hbd.mono hq1.size)
        obtain ⟨vs, h1, h2, h3⟩ := hu
        have hwi := hq1.size
        rw [List.length_map] at h1 h2
        have hr : SlR (fun b => w.heap.size ≤ b) wd u ((clqs (netsL g)).map bitsI) := RowsTo.rows (vs := vs) ⟨by rw [List.length_map]; omega, fun i hi hi2 => (h3 i hi2 hi).weak fun b hb => by rcases hb.1 with e | e <;> omega⟩ (by rw [List.length_map]; exact h1) (fun b hb => by have := (h2.lt b hb).1; omega) h2 (by omega)
        clear h1 h2 h3 hHeld
        go_wp2
        go_ret
        exact ⟨_, rfl, hr, hq5⟩
      case b169_5 =>
        go_simp
        obtain ⟨nb, hnb⟩ : ∃ nb, nb = wd.heap.size := ⟨_, rfl⟩
        rw [← hnb]
        have hnw : wi.heap.size ≤ nb := (by rw [hnb]; exact hbd.size)
        have hbn : Below wd.heap.size wd (wd.alloc (.cells #[] 2)) := (Below.refl _ _).alloc (Nat.le_refl _) _
        have hx : SlI (fun b => wi.heap.size ≤ b) (wd.alloc (.cells #[] 2)) .i64 (.slice (some ⟨nb, 0, none⟩) 0 0) [] := (by rw [hnb]; exact (SlI.lit0V wd).weak fun b hb => by rw [hb, ← hnb]; exact hnw)
        try have ha := ha.below hbn (Nat.le_refl _)
        try have hl := hl.below hbn (Nat.le_refl _)
        have hbd := hbd.trans (hbn.mono hbd.size)
        clear hnb hbn hnw e0
        generalize wd.alloc (.cells #[] 2) = wy at *
        obtain ⟨wd, rfl⟩ : ∃ x, x = wy := ⟨_, rfl⟩
        have e0 := (hbd.cell (cell_lt c1)).trans c1
        try dsimp only
        refine hK.out _ _ ?h176 (fun hHeld => ?_)
        case h176 => first | exact ‹_› | (simp [*, go_sem])
        clear hK K
        try simp only [Act.put, List.setIfInBounds_toArray, List.set_cons_zero, List.set_cons_succ]
        refine wpAnyH_ready (rs := [4]) (by kernel_rfl) (by simp) ?_
        refine AllReadyH.cons (by simp only [List.getElem?_toArray, List.getElem?_cons_succ, List.getElem?_cons_zero]; exact rfl) (fun K hK => ?_) AllReadyH.nil
        go_simp
        refine (HALL.out wd).mono ?_
        rintro e wy ⟨lv, rfl, hl0, hb5⟩
        have hl := hl0.ints (by simp [natsI]; omega)
        try have ha := ha.below hb5 (Nat.le_refl _)
        try have hx := hx.below hb5 (Nat.le_refl _)
        have hbd := hbd.trans (hb5.mono hbd.size)
        clear hb5 e0 hl0
        obtain ⟨wd, rfl⟩ : ∃ x, x = wy := ⟨_, rfl⟩
        have e0 := (hbd.cell (cell_lt c1)).trans c1
        try dsimp only
        refine hK.out _ _ ?h178 (fun hHeld => ?_)
        case h178 => first | exact ‹_› | (simp [*, go_sem])
        clear hK K
        try simp only [Act.put, List.setIfInBounds_toArray, List.set_cons_zero, List.set_cons_succ]
        refine wpAnyH_ready (rs := [6]) (by kernel_rfl) (by simp) ?_
        refine AllReadyH.cons (by simp only [List.getElem?_toArray, List.getElem?_cons_succ, List.getElem?_cons_zero]; exact rfl) (fun K hK => ?_) AllReadyH.nil
        go_simp
        refine (HCL.out _ _ _ _ _ _ wd (hq1.trans (hbd.mono hq1.size)) ha hl hx).mono ?_
        rintro e wy ⟨u, rfl, hu, hb5⟩
        have hbz := hbd.size
        have hbd := hbd.trans (hb5.mono hbd.size)
        obtain ⟨N8, hN8⟩ : ∃ n, n = wd.heap.size := ⟨_, rfl⟩
        rw [← hN8] at hu
        have hN8i : wi.heap.size ≤ N8 := (by rw [hN8]; exact hbz)
        clear hb5 e0 hN8 hbz
        obtain ⟨wd, rfl⟩ : ∃ x, x = wy := ⟨_, rfl⟩
        have e0 := (hbd.cell (cell_lt c1)).trans c1
        try dsimp only
        refine hK.out _ _ ?h180 (fun hHeld => ?_)
        case h180 => first | exact ‹_› | (simp [*, go_sem])
        clear hK K
        try simp only [Act.put, List.setIfInBounds_toArray, List.set_cons_zero, List.set_cons_succ]
        refine wpAnyH_take (i := 7) (v := ?v181) (by simp only [List.getElem?_toArray, List.getElem?_cons_succ, List.getElem?_cons_zero]; exact rfl) (by kernel_rfl) (by kernel_rfl) (by kernel_rfl) (by intro _ _ _ h; exact h) (Or.inl ⟨by rfl, ?y181⟩) hHeld ?_
        case y181 => (intro w hSw; (try dsimp only at hSw); go_simp; try (with_reducible rfl))
        try simp only [Act.put, List.setIfInBounds_toArray, List.set_cons_zero, List.set_cons_succ]
        refine wpAnyH_done (by kernel_rfl) ?_ _
        have hq5 := hq1.trans (hbd.mono hq1.size)
        obtain ⟨vs, h1, h2, h3⟩ := hu
        have hwi := hq1.size
        rw [List.length_map] at h1 h2
        have hr : SlR (fun b => w.heap.size ≤ b) wd u ((clqs (netsL g)).map bitsI) := RowsTo.rows (vs := vs) ⟨by rw [List.length_map]; omega, fun i hi hi2 => (h3 i hi2 hi).weak fun b hb => by rcases hb.1 with e | e <;> omega⟩ (by rw [List.length_map]; exact h1) (fun b hb => by have := (h2.lt b hb).1; omega) h2 (by omega)
        clear h1 h2 h3 hHeld
        go_wp2
        go_ret
        exact ⟨_, rfl, hr, hq5⟩
    case b167_5 =>
      go_simp
      obtain ⟨nb, hnb⟩ : ∃ nb, nb = wd.heap.size := ⟨_, rfl⟩
      rw [← hnb]
      have hnw : wi.heap.size ≤ nb := (by rw [hnb]; exact hbd.size)
      have hbn : Below wd.heap.size wd (wd.alloc (.cells #[] 2)) := (Below.refl _ _).alloc (Nat.le_refl _) _
      have hx : SlI (fun b => wi.heap.size ≤ b) (wd.alloc (.cells #[] 2)) .i64 (.slice (some ⟨nb, 0, none⟩) 0 0) [] := (by rw [hnb]; exact (SlI.lit0V wd).weak fun b hb => by rw [hb, ← hnb]; exact hnw)
      try have ha := ha.below hbn (Nat.le_refl _)
      try have hl := hl.below hbn (Nat.le_refl _)
      have hbd := hbd.trans (hbn.mono hbd.size)
      clear hnb hbn hnw e0
      generalize wd.alloc (.cells #[] 2) = wy at *
      obtain ⟨wd, rfl⟩ : ∃ x, x = wy := ⟨_, rfl⟩
      have e0 := (hbd.cell (cell_lt c1)).trans c1
      try dsimp only
      refine hK.out _ _ ?h182 (fun hHeld => ?_)
      case h182 => first | exact ‹_› | (simp [*, go_sem])
      clear hK K
      try simp only [Act.put, List.setIfInBounds_toArray, List.set_cons_zero, List.set_cons_succ]
      refine wpAnyH_ready (rs := [3]) (by kernel_rfl) (by simp) ?_
      refine AllReadyH.cons (by simp only [List.getElem?_toArray, List.getElem?_cons_succ, List.getElem?_cons_zero]; exact rfl) (fun K hK => ?_) AllReadyH.nil
      go_simp
      refine (HSZ.out wd (hq1.trans (hbd.mono hq1.size))).mono ?_
      rintro e wy ⟨rfl, hb5⟩
      try have ha := ha.below hb5 (Nat.le_refl _)
      try have hl := hl.below hb5 (Nat.le_refl _)
      try have hx := hx.below hb5 (Nat.le_refl _)
      have hbd := hbd.trans (hb5.mono hbd.size)
      clear hb5 e0
      obtain ⟨wd, rfl⟩ : ∃ x, x = wy := ⟨_, rfl⟩
      have e0 := (hbd.cell (cell_lt c1)).trans c1
      try dsimp only
      refine hK.out _ _ ?h184 (fun hHeld => ?_)
      case h184 => first | exact ‹_› | (simp [*, go_sem])
      clear hK K
      try simp only [Act.put, List.setIfInBounds_toArray, List.set_cons_zero, List.set_cons_succ]
      refine wpAnyH_ready (rs := [4]) (by kernel_rfl) (by simp) ?_
      refine AllReadyH.cons (by simp only [List.getElem?_toArray, List.getElem?_cons_succ, List.getElem?_cons_zero]; exact rfl) (fun K hK => ?_) AllReadyH.nil
      go_simp
      refine (HALL.out wd).mono ?_
      rintro e wy ⟨lv, rfl, hl0, hb5⟩
      have hl := hl0.ints (by simp [natsI]; omega)
      try have ha := ha.below hb5 (Nat.le_refl _)
      try have hx := hx.below hb5 (Nat.le_refl _)
      have hbd := hbd.trans (hb5.mono hbd.size)
      clear hb5 e0 hl0
      obtain ⟨wd, rfl⟩ : ∃ x, x = wy := ⟨_, rfl⟩
      have e0 := (hbd.cell (cell_lt c1)).trans c1
      try dsimp only
      refine hK.out _ _ ?h186 (fun hHeld => ?_)
      case h186 => first | exact ‹_› | (simp [*, go_sem])
      clear hK K
      try simp only [Act.put, List.setIfInBounds_toArray, List.set_cons_zero, List.set_cons_succ]
      refine wpAnyH_ready (rs := [6]) (by kernel_rfl) (by simp) ?_
      refine AllReadyH.cons (by simp only [List.getElem?_toArray, List.getElem?_cons_succ, List.getElem?_cons_zero]; exact rfl) (fun K hK => ?_) AllReadyH.nil
      go_simp
      refine (HCL.out _ _ _ _ _ _ wd (hq1.trans (hbd.mono hq1.size)) ha hl hx).mono ?_
      rintro e wy ⟨u, rfl, hu, hb5⟩
      have hbz := hbd.size
      have hbd := hbd.trans (hb5.mono hbd.size)
      obtain ⟨N8, hN8⟩ : ∃ n, n = wd.heap.size := ⟨_, rfl⟩
      rw [← hN8] at hu
      have hN8i : wi.heap.size ≤ N8 := (by rw [hN8]; exact hbz)
      clear hb5 e0 hN8 hbz
      obtain ⟨wd, rfl⟩ : ∃ x, x = wy := ⟨_, rfl⟩
      have e0 := (hbd.cell (cell_lt c1)).trans c1
      try dsimp only
      refine hK.out _ _ ?h188 (fun hHeld => ?_)
      case h188 => first | exact ‹_› | (simp [*, go_sem])
      clear hK K
      try simp only [Act.put, List.setIfInBounds_toArray, List.set_cons_zero, List.set_cons_succ]
      refine wpAnyH_take (i := 7) (v := ?v189) (by simp only [List.getElem?_toArray, List.getElem?_cons_succ, List.getElem?_cons_zero]; exact rfl) (by kernel_rfl) (by kernel_rfl) (by kernel_rfl) (by intro _ _ _ h; exact h) (Or.inl ⟨by rfl, ?y189⟩) hHeld ?_
      case y189 => (intro w hSw; (try dsimp only at hSw); go_simp; try (with_reducible rfl))
      try simp only [Act.put, List.setIfInBounds_toArray, List.set_cons_zero, List.set_cons_succ]
      refine wpAnyH_done (by kernel_rfl) ?_ _
      have hq5 := hq1.trans (hbd.mono hq1.size)
      obtain ⟨vs, h1, h2, h3⟩ := hu
      have hwi := hq1.size
      rw [List.length_map] at h1 h2
      have hr : SlR (fun b => w.heap.size ≤ b) wd u ((clqs (netsL g)).map bitsI) := RowsTo.rows (vs := vs) ⟨by rw [List.length_map]; omega, fun i hi hi2 => (h3 i hi2 hi).weak fun b hb => by rcases hb.1 with e | e <;> omega⟩ (by rw [List.length_map]; exact h1) (fun b hb => by have := (h2.lt b hb).1; omega) h2 (by omega)
      clear h1 h2 h3 hHeld
      go_wp2
      go_ret
      exact ⟨_, rfl, hr, hq5⟩
  case b165_3 =>
    go_simp
    refine (HSZ.out wd (hq1.trans (hbd.mono hq1.size))).mono ?_
    rintro e wy ⟨rfl, hb5⟩
    try have ha := ha.below hb5 (Nat.le_refl _)
    try have hl := hl.below hb5 (Nat.le_refl _)
    try have hx := hx.below hb5 (Nat.le_refl _)
    have hbd := hbd.trans (hb5.mono hbd.size)
    clear hb5 e0
    obtain ⟨wd, rfl⟩ : ∃ x, x = wy := ⟨_, rfl⟩
    have e0 := (hbd.cell (cell_lt c1)).trans c1
    try dsimp only
    refine hK.out _ _ ?h190 (fun hHeld => ?_)
    case h190 => first | exact ‹_› | (simp [*, go_sem])
    clear hK K
    try simp only [Act.put, List.setIfInBounds_toArray, List.set_cons_zero, List.set_cons_succ]
    refine wpAnyH_ready (rs := [1, 4, 5]) (by kernel_rfl) (by simp) ?_
    refine (AllReadyH.cons (by simp only [List.getElem?_toArray, List.getElem?_cons_succ, List.getElem?_cons_zero]; exact rfl) (fun K hK => ?b191_1) (AllReadyH.cons (by simp only [List.getElem?_toArray, List.getElem?_cons_succ, List.getElem?_cons_zero]; exact rfl) (fun K hK => ?b191_4) (AllReadyH.cons (by simp only [List.getElem?_toArray, List.getElem?_cons_succ, List.getElem?_cons_zero]; exact rfl) (fun K hK => ?b191_5) AllReadyH.nil)))
    case b191_1 =>
      go_simp
      obtain ⟨nb, hnb⟩ : ∃ nb, nb = wd.heap.size := ⟨_, rfl⟩
      rw [← hnb]
      have hnw : wi.heap.size ≤ nb := (by rw [hnb]; exact hbd.size)
      have hbn : Below wd.heap.size wd (wd.alloc (.cells #[] 2)) := (Below.refl _ _).alloc (Nat.le_refl _) _
      have ha : SlI (fun b => wi.heap.size ≤ b) (wd.alloc (.cells #[] 2)) .i64 (.slice (some ⟨nb, 0, none⟩) 0 0) [] := (by rw [hnb]; exact (SlI.lit0V wd).weak fun b hb => by rw [hb, ← hnb]; exact hnw)
      try have hl := hl.below hbn (Nat.le_refl _)
      try have hx := hx.below hbn (Nat.le_refl _)
      have hbd := hbd.trans (hbn.mono hbd.size)
      clear hnb hbn hnw e0
      generalize wd.alloc (.cells #[] 2) = wy at *
      obtain ⟨wd, rfl⟩ : ∃ x, x = wy := ⟨_, rfl⟩
      have e0 := (hbd.cell (cell_lt c1)).trans c1
      try dsimp only
      refine hK.out _ _ ?h192 (fun hHeld => ?_)
      case h192 => first | exact ‹_› | (simp [*, go_sem])
      clear hK K
      try simp only [Act.put, List.setIfInBounds_toArray, List.set_cons_zero, List.set_cons_succ]
      refine wpAnyH_ready (rs := [4, 5]) (by kernel_rfl) (by simp) ?_
      refine (AllReadyH.cons (by simp only [List.getElem?_toArray, List.getElem?_cons_succ, List.getElem?_cons_zero]; exact rfl) (fun K hK => ?b193_4) (AllReadyH.cons (by simp only [List.getElem?_toArray, List.getElem?_cons_succ, List.getElem?_cons_zero]; exact rfl) (fun K hK => ?b193_5) AllReadyH.nil))
      case b193_4 =>
        go_simp
        refine (HALL.out wd).mono ?_
        rintro e wy ⟨lv, rfl, hl0, hb5⟩
        have hl := hl0.ints (by simp [natsI]; omega)
        try have ha := ha.below hb5 (Nat.le_refl _)
        try have hx := hx.below hb5 (Nat.le_refl _)
        have hbd := hbd.trans (hb5.mono hbd.size)
        clear hb5 e0 hl0
        obtain ⟨wd, rfl⟩ : ∃ x, x = wy := ⟨_, rfl⟩
        have e0 := (hbd.cell (cell_lt c1)).trans c1
        try dsimp only
        refine hK.out _ _ ?h194 (fun hHeld => ?_)
        case h194 => first | exact ‹_› | (simp [*, go_sem])
        clear hK K
        try simp only [Act.put, List.setIfInBounds_toArray, List.set_cons_zero, List.set_cons_succ]
        refine wpAnyH_ready (rs := [5]) (by kernel_rfl) (by simp) ?_
        refine AllReadyH.cons (by simp only [List.getElem?_toArray, List.getElem?_cons_succ, List.getElem?_cons_zero]; exact rfl) (fun K hK => ?_) AllReadyH.nil
        go_simp
        obtain ⟨nb, hnb⟩ : ∃ nb, nb = wd.heap.size := ⟨_, rfl⟩
        rw [← hnb]
        have hnw : wi.heap.size ≤ nb := (by rw [hnb]; exact hbd.size)
        have hbn : Below wd.heap.size wd (wd.alloc (.cells #[] 2)) := (Below.refl _ _).alloc (Nat.le_refl _) _
        have hx : SlI (fun b => wi.heap.size ≤ b) (wd.alloc (.cells #[] 2)) .i64 (.slice (some ⟨nb, 0, none⟩) 0 0) [] := (by rw [hnb]; exact (SlI.lit0V wd).weak fun b hb => by rw [hb, ← hnb]; exact hnw)
        try have ha := ha.below hbn (Nat.le_refl _)
        try have hl := hl.below hbn (Nat.le_refl _)
        have hbd := hbd.trans (hbn.mono hbd.size)
        clear hnb hbn hnw e0
        generalize wd.alloc (.cells #[] 2) = wy at *
        obtain ⟨wd, rfl⟩ : ∃ x, x = wy := ⟨_, rfl⟩
        have e0 := (hbd.cell (cell_lt c1)).trans c1
        try dsimp only
        refine hK.out _ _ ?h196 (fun hHeld => ?_)
        case h196 => first | exact ‹_› | (simp [*, go_sem])
        clear hK K
        try simp only [Act.put, List.setIfInBounds_toArray, List.set_cons_zero, List.set_cons_succ]
        refine wpAnyH_ready (rs := [6]) (by kernel_rfl) (by simp) ?_
        refine AllReadyH.cons (by simp only [List.getElem?_toArray, List.getElem?_cons_succ, List.getElem?_cons_zero]; exact rfl) (fun K hK => ?_) AllReadyH.nil
        go_simp
        refine (HCL.out _ _ _ _ _ _ wd (hq1.trans (hbd.mono hq1.size)) ha hl hx).mono ?_
        rintro e wy ⟨u, rfl, hu, hb5⟩
        have hbz := hbd.size
        have hbd := hbd.trans (hb5.mono hbd.size)
        obtain ⟨N8, hN8⟩ : ∃ n, n = wd.heap.size := ⟨_, rfl⟩
        rw [← hN8] at hu
        have hN8i : wi.heap.size ≤ N8 := (by rw [hN8]; exact hbz)
        clear hb5 e0 hN8 hbz
        obtain ⟨wd, rfl⟩ : ∃ x, x = wy := ⟨_, rfl⟩
        have e0 := (hbd.cell (cell_lt c1)).trans c1
        try dsimp only
        refine hK.out _ _ ?h198 (fun hHeld => ?_)
        case h198 => first | exact ‹_› | (simp [*, go_sem])
        clear hK K
        try simp only [Act.put, List.setIfInBounds_toArray, List.set_cons_zero, List.set_cons_succ]
        refine wpAnyH_take (i := 7) (v := ?v199) (by simp only [List.getElem?_toArray, List.getElem?_cons_succ, List.getElem?_cons_zero]; exact rfl) (by kernel_rfl) (by kernel_rfl) (by kernel_rfl) (by intro _ _ _ h; exact h) (Or.inl ⟨by rfl, ?y199⟩) hHeld ?_
        case y199 => (intro w hSw; (try dsimp only at hSw); go_simp; try (with_reducible rfl))
        try simp only [Act.put, List.setIfInBounds_toArray, List.set_cons_zero, List.set_cons_succ]
        refine wpAnyH_done (by kernel_rfl) ?_ _
        have hq5 := hq1.trans (hbd.mono hq1.size)
        obtain ⟨vs, h1, h2, h3⟩ := hu
        have hwi := hq1.size
        rw [List.length_map] at h1 h2
        have hr : SlR (fun b => w.heap.size ≤ b) wd u ((clqs (netsL g)).map bitsI) := RowsTo.rows (vs := vs) ⟨by rw [List.length_map]; omega, fun i hi hi2 => (h3 i hi2 hi).weak fun b hb => by rcases hb.1 with e | e <;> omega⟩ (by rw [List.length_map]; exact h1) (fun b hb => by have := (h2.lt b hb).1; omega) h2 (by omega)
        clear h1 h2 h3 hHeld
        go_wp2
        go_ret
        exact ⟨_, rfl, hr, hq5⟩
      case b193_5 =>
        go_simp
        obtain ⟨nb, hnb⟩ : ∃ nb, nb = wd.heap.size := ⟨_, rfl⟩
        rw [← hnb]
        have hnw : wi.heap.size ≤ nb := (by rw [hnb]; exact hbd.size)
        have hbn : Below wd.heap.size wd (wd.alloc (.cells #[] 2)) := (Below.refl _ _).alloc (Nat.le_refl _) _
        have hx : SlI (fun b => wi.heap.size ≤ b) (wd.alloc (.cells #[] 2)) .i64 (.slice (some ⟨nb, 0, none⟩) 0 0) [] := (by rw [hnb]; exact (SlI.lit0V wd).weak fun b hb => by rw [hb, ← hnb]; exact hnw)
        try have ha := ha.below hbn (Nat.le_refl _)
        try have hl := hl.below hbn (Nat.le_refl _)
        have hbd := hbd.trans (hbn.mono hbd.size)
        clear hnb hbn hnw e0
        generalize wd.alloc (.cells #[] 2) = wy at *
        obtain ⟨wd, rfl⟩ : ∃ x, x = wy := ⟨_, rfl⟩
        have e0 := (hbd.cell (cell_lt c1)).trans c1
        try dsimp only
        refine hK.out _ _ ?h200 (fun hHeld => ?_)
        case h200 => first | exact ‹_› | (simp [*, go_sem])
        clear hK K
        try simp only [Act.put, List.setIfInBounds_toArray, List.set_cons_zero, List.set_cons_succ]
        refine wpAnyH_ready (rs := [4]) (by kernel_rfl) (by simp) ?_
        refine AllReadyH.cons (by simp only [List.getElem?_toArray, List.getElem?_cons_succ, List.getElem?_cons_zero]; exact rfl) (fun K hK => ?_) AllReadyH.nil
        go_simp
        refine (HALL.out wd).mono ?_
        rintro e wy ⟨lv, rfl, hl0, hb5⟩
        have hl := hl0.ints (by simp [natsI]; omega)
        try have ha := ha.below hb5 (Nat.le_refl _)
        try have hx := hx.below hb5 (Nat.le_refl _)
        have hbd := hbd.trans (hb5.mono hbd.size)
        clear hb5 e0 hl0
        obtain ⟨wd, rfl⟩ : ∃ x, x = wy := ⟨_, rfl⟩
        have e0 := (hbd.cell (cell_lt c1)).trans c1
        try dsimp only
        refine hK.out _ _ ?h202 (fun hHeld => ?_)
        case h202 => first | exact ‹_› | (simp [*, go_sem])
        clear hK K
        try simp only [Act.put, List.setIfInBounds_toArray, List.set_cons_zero, List.set_cons_succ]
        refine wpAnyH_ready (rs := [6]) (by kernel_rfl) (by simp) ?_
        refine AllReadyH.cons (by simp only [List.getElem?_toArray, List.getElem?_cons_succ, List.getElem?_cons_zero]; exact rfl) (fun K hK => ?_) AllReadyH.nil
        go_simp
        refine (HCL.out _ _ _ _ _ _ wd (hq1.trans (hbd.mono hq1.size)) ha hl hx).mono ?_
        rintro e wy ⟨u, rfl, hu, hb5⟩
        have hbz := hbd.size
        have hbd := hbd.trans (hb5.mono hbd.size)
        obtain ⟨N8, hN8⟩ : ∃ n, n = wd.heap.size := ⟨_, rfl⟩
        rw [← hN8] at hu
        have hN8i : wi.heap.size ≤ N8 := (by rw [hN8]; exact hbz)
        clear hb5 e0 hN8 hbz
        obtain ⟨wd, rfl⟩ : ∃ x, x = wy := ⟨_, rfl⟩
        have e0 := (hbd.cell (cell_lt c1)).trans c1
        try dsimp only
        refine hK.out _ _ ?h204 (fun hHeld => ?_)
        case h204 => first | exact ‹_› | (simp [*, go_sem])
        clear hK K
        try simp only [Act.put, List.setIfInBounds_toArray, List.set_cons_zero, List.set_cons_succ]
        refine wpAnyH_take (i := 7) (v := ?v205) (by simp only [List.getElem?_toArray, List.getElem?_cons_succ, List.getElem?_cons_zero]; exact rfl) (by kernel_rfl) (by kernel_rfl) (by kernel_rfl) (by intro _ _ _ h; exact h) (Or.inl ⟨by rfl, ?y205⟩) hHeld ?_
        case y205 => (intro w hSw; (try dsimp only at hSw); go_simp; try (with_reducible rfl))
        try simp only [Act.put, List.setIfInBounds_toArray, List.set_cons_zero, List.set_cons_succ]
        refine wpAnyH_done (by kernel_rfl) ?_ _
        have hq5 := hq1.trans (hbd.mono hq1.size)
        obtain ⟨vs, h1, h2, h3⟩ := hu
        have hwi := hq1.size
        rw [List.length_map] at h1 h2
        have hr : SlR (fun b => w.heap.size ≤ b) wd u ((clqs (netsL g)).map bitsI) := RowsTo.rows (vs := vs) ⟨by rw [List.length_map]; omega, fun i hi hi2 => (h3 i hi2 hi).weak fun b hb => by rcases hb.1 with e | e <;> omega⟩ (by rw [List.length_map]; exact h1) (fun b hb => by have := (h2.lt b hb).1; omega) h2 (by omega)
        clear h1 h2 h3 hHeld
        go_wp2
        go_ret
        exact ⟨_, rfl, hr, hq5⟩
    case b191_4 =>
      go_simp
      refine (HALL.out wd).mono ?_
      rintro e wy ⟨lv, rfl, hl0, hb5⟩
      have hl := hl0.ints (by simp [natsI]; omega)
      try have ha := ha.below hb5 (Nat.le_refl _)
      try have hx := hx.below hb5 (Nat.le_refl _)
      have hbd := hbd.trans (hb5.mono hbd.size)
      clear hb5 e0 hl0
      obtain ⟨wd, rfl⟩ : ∃ x, x = wy := ⟨_, rfl⟩
      have e0 := (hbd.cell (cell_lt c1)).trans c1
      try dsimp only
      refine hK.out _ _ ?h206 (fun hHeld => ?_)
      case h206 => first | exact ‹_› | (simp [*, go_sem])
      clear hK K
      try simp only [Act.put, List.setIfInBounds_toArray, List.set_cons_zero, List.set_cons_succ]
      refine wpAnyH_ready (rs := [1, 5]) (by kernel_rfl) (by simp) ?_
      refine (AllReadyH.cons (by simp only [List.getElem?_toArray, List.getElem?_cons_succ, List.getElem?_cons_zero]; exact rfl) (fun K hK => ?b207_1) (AllReadyH.cons (by simp only [List.getElem?_toArray, List.getElem?_cons_succ, List.getElem?_cons_zero]; exact rfl) (fun K hK => ?b207_5) AllReadyH.nil))
      case b207_1 =>
        go_simp
        obtain ⟨nb, hnb⟩ : ∃ nb, nb = wd.heap.size := ⟨_, rfl⟩
        rw [← hnb]
        have hnw : wi.heap.size ≤ nb := (by rw [hnb]; exact hbd.size)
        have hbn : Below wd.heap.size wd (wd.alloc (.cells #[] 2)) := (Below.refl _ _).alloc (Nat.le_refl _) _
        have ha : SlI (fun b => wi.heap.size ≤ b) (wd.alloc (.cells #[] 2)) .i64 (.slice (some ⟨nb, 0, none⟩) 0 0) [] := (by rw [hnb]; exact (SlI.lit0V wd).weak fun b hb => by rw [hb, ← hnb]; exact hnw)
        try have hl := hl.below hbn (Nat.le_refl _)
        try have hx := hx.below hbn (Nat.le_refl _)
        have hbd := hbd.trans (hbn.mono hbd.size)
        clear hnb hbn hnw e0
        generalize wd.alloc (.cells #[] 2) = wy at *
        obtain ⟨wd, rfl⟩ : ∃ x, x = wy := ⟨_, rfl⟩
        have e0 := (hbd.cell (cell_lt c1)).trans c1
        try dsimp only
        refine hK.out _ _ ?h208 (fun hHeld => ?_)
        case h208 => first | exact ‹_› | (simp [*, go_sem])
        clear hK K
        try simp only [Act.put, List.setIfInBounds_toArray, List.set_cons_zero, List.set_cons_succ]
        refine wpAnyH_ready (rs := [5]) (by kernel_rfl) (by simp) ?_
        refine AllReadyH.cons (by simp only [List.getElem?_toArray, List.getElem?_cons_succ, List.getElem?_cons_zero]; exact rfl) (fun K hK => ?_) AllReadyH.nil
        go_simp
        obtain ⟨nb, hnb⟩ : ∃ nb, nb = wd.heap.size := ⟨_, rfl⟩
        rw [← hnb]
        have hnw : wi.heap.size ≤ nb := (by rw [hnb]; exact hbd.size)
        have hbn : Below wd.heap.size wd (wd.alloc (.cells #[] 2)) := (Below.refl _ _).alloc (Nat.le_refl _) _
        have hx : SlI (fun b => wi.heap.size ≤ b) (wd.alloc (.cells #[] 2)) .i64 (.slice (some ⟨nb, 0, none⟩) 0 0) [] := (by rw [hnb]; exact (SlI.lit0V wd).weak fun b hb => by rw [hb, ← hnb]; exact hnw)
        try have ha := ha.below hbn (Nat.le_refl _)
        try have hl := hl.below hbn (Nat.le_refl _)
        have hbd := hbd.trans (hbn.mono hbd.size)
        clear hnb hbn hnw e0
        generalize wd.alloc (.cells #[] 2) = wy at *
        obtain ⟨wd, rfl⟩ : ∃ x, x = wy := ⟨_, rfl⟩
        have e0 := (hbd.cell (cell_lt c1)).trans c1
        try dsimp only
        refine hK.out _ _ ?h210 (fun hHeld => ?_)
        case h210 => first | exact ‹_› | (simp [*, go_sem])
        clear hK K
        try simp only [Act.put, List.setIfInBounds_toArray, List.set_cons_zero, List.set_cons_succ]
        refine wpAnyH_ready (rs := [6]) (by kernel_rfl) (by simp) ?_
        refine AllReadyH.cons (by simp only [List.getElem?_toArray, List.getElem?_cons_succ, List.getElem?_cons_zero]; exact rfl) (fun K hK => ?_) AllReadyH.nil
        go_simp
        refine (HCL.out _ _ _ _ _ _ wd (hq1.trans (hbd.mono hq1.size)) ha hl hx).mono ?_
        rintro e wy ⟨u, rfl, hu, hb5⟩
        have hbz := hbd.size
        have hbd := hbd.trans (hb5.mono hbd.size)
        obtain ⟨N8, hN8⟩ : ∃ n, n = wd.heap.size := ⟨_, rfl⟩
        rw [← hN8] at hu
        have hN8i : wi.heap.size ≤ N8 := (by rw [hN8]; exact hbz)
        clear hb5 e0 hN8 hbz
        obtain ⟨wd, rfl⟩ : ∃ x, x = wy := ⟨_, rfl⟩
        have e0 := (hbd.cell (cell_lt c1)).trans c1
        try dsimp only
        refine hK.out _ _ ?h212 (fun hHeld => ?_)
        case h212 => first | exact ‹_› | (simp [*, go_sem])
        clear hK K
        try simp only [Act.put, List.setIfInBounds_toArray, List.set_cons_zero, List.set_cons_succ]
        refine wpAnyH_take (i := 7) (v := ?v213) (by simp only [List.getElem?_toArray, List.getElem?_cons_succ, List.getElem?_cons_zero]; exact rfl) (by kernel_rfl) (by kernel_rfl) (by kernel_rfl) (by intro _ _ _ h; exact h) (Or.inl ⟨by rfl, ?y213⟩) hHeld ?_
        case y213 => (intro w hSw; (try dsimp only at hSw); go_simp; try (with_reducible rfl))
        try simp only [Act.put, List.setIfInBounds_toArray, List.set_cons_zero, List.set_cons_succ]
        refine wpAnyH_done (by kernel_rfl) ?_ _
        have hq5 := hq1.trans (hbd.mono hq1.size)
        obtain ⟨vs, h1, h2, h3⟩ := hu
        have hwi := hq1.size
        rw [List.length_map] at h1 h2
        have hr : SlR (fun b => w.heap.size ≤ b) wd u ((clqs (netsL g)).map bitsI) := RowsTo.rows (vs := vs) ⟨by rw [List.length_map]; omega, fun i hi hi2 => (h3 i hi2 hi).weak fun b hb => by rcases hb.1 with e | e <;> omega⟩ (by rw [List.length_map]; exact h1) (fun b hb => by have := (h2.lt b hb).1; omega) h2 (by omega)
        clear h1 h2 h3 hHeld
        go_wp2
        go_ret
        exact ⟨_, rfl, hr, hq5⟩
      case b207_5 =>
        go_simp
        obtain ⟨nb, hnb⟩ : ∃ nb, nb = wd.heap.size := ⟨_, rfl⟩
        rw [← hnb]
        have hnw : wi.heap.size ≤ nb := (by rw [hnb]; exact hbd.size)
        have hbn : Below wd.heap.size wd (wd.alloc (.cells #[] 2)) := (Below.refl _ _).alloc (Nat.le_refl _) _
        have hx : SlI (fun b => wi.heap.size ≤ b) (wd.alloc (.cells #[] 2)) .i64 (.slice (some ⟨nb, 0, none⟩) 0 0) [] := (by rw [hnb]; exact (SlI.lit0V wd).weak fun b hb => by rw [hb, ← hnb]; exact hnw)
        try have ha := ha.below hbn (Nat.le_refl _)
        try have hl := hl.below hbn (Nat.le_refl _)
        have hbd := hbd.trans (hbn.mono hbd.size)
        clear hnb hbn hnw e0
        generalize wd.alloc (.cells #[] 2) = wy at *
        obtain ⟨wd, rfl⟩ : ∃ x, x = wy := ⟨_, rfl⟩
        have e0 := (hbd.cell (cell_lt c1)).trans c1
        try dsimp only
        refine hK.out _ _ ?h214 (fun hHeld => ?_)
        case h214 => first | exact ‹_› | (simp [*, go_sem])
        clear hK K
        try simp only [Act.put, List.setIfInBounds_toArray, List.set_cons_zero, List.set_cons_succ]
        refine wpAnyH_ready (rs := [1]) (by kernel_rfl) (by simp) ?_
        refine AllReadyH.cons (by simp only [List.getElem?_toArray, List.getElem?_cons_succ, List.getElem?_cons_zero]; exact rfl) (fun K hK => ?_) AllReadyH.nil
        go_simp
        obtain ⟨nb, hnb⟩ : ∃ nb, nb = wd.heap.size := ⟨_, rfl⟩
        rw [← hnb]
        have hnw : wi.heap.size ≤ nb := (by rw [hnb]; exact hbd.size)
        have hbn : Below wd.heap.size wd (wd.alloc (.cells #[] 2)) := (Below.refl _ _).alloc (Nat.le_refl _) _
        have ha : SlI (fun b => wi.heap.size ≤ b) (wd.alloc (.cells #[] 2)) .i64 (.slice (some ⟨nb, 0, none⟩) 0 0) [] := (by rw [hnb]; exact (SlI.lit0V wd).weak fun b hb => by rw [hb, ← hnb]; exact hnw)
        try have hl := hl.below hbn (Nat.le_refl _)
        try have hx := hx.below hbn (Nat.le_refl _)
        have hbd := hbd.trans (hbn.mono hbd.size)
        clear hnb hbn hnw e0
        generalize wd.alloc (.cells #[] 2) = wy at *
        obtain ⟨wd, rfl⟩ : ∃ x, x = wy := ⟨_, rfl⟩
        have e0 := (hbd.cell (cell_lt c1)).trans c1
        try dsimp only
        refine hK.out _ _ ?h216 (fun hHeld => ?_)
        case h216 => first | exact ‹_› | (simp [*, go_sem])
        clear hK K
        try simp only [Act.put, List.setIfInBounds_toArray, List.set_cons_zero, List.set_cons_succ]
        refine wpAnyH_ready (rs := [6]) (by kernel_rfl) (by simp) ?_
        refine AllReadyH.cons (by simp only [List.getElem?_toArray, List.getElem?_cons_succ, List.getElem?_cons_zero]; exact rfl) (fun K hK => ?_) AllReadyH.nil
        go_simp
        refine (HCL.out _ _ _ _ _ _ wd (hq1.trans (hbd.mono hq1.size)) ha hl hx).mono ?_
        rintro e wy ⟨u, rfl, hu, hb5⟩
        have hbz := hbd.size
        have hbd := hbd.trans (hb5.mono hbd.size)
        obtain ⟨N8, hN8⟩ : ∃ n, n = wd.heap.size := ⟨_, rfl⟩
        rw [← hN8] at hu
        have hN8i : wi.heap.size ≤ N8 := (by rw [hN8]; exact hbz)
        clear hb5 e0 hN8 hbz
        obtain ⟨wd, rfl⟩ : ∃ x, x = wy := ⟨_, rfl⟩
        have e0 := (hbd.cell (cell_lt c1)).trans c1
        try dsimp only
        refine hK.out _ _ ?h218 (fun hHeld => ?_)
        case h218 => first | exact ‹_› | (simp [*, go_sem])
        clear hK K
        try simp only [Act.put, List.setIfInBounds_toArray, List.set_cons_zero, List.set_cons_succ]
        refine wpAnyH_take (i := 7) (v := ?v219) (by simp only [List.getElem?_toArray, List.getElem?_cons_succ, List.getElem?_cons_zero]; exact rfl) (by kernel_rfl) (by kernel_rfl) (by kernel_rfl) (by intro _ _ _ h; exact h) (Or.inl ⟨by rfl, ?y219⟩) hHeld ?_
        case y219 => (intro w hSw; (try dsimp only at hSw); go_simp; try (with_reducible rfl))
        try simp only [Act.put, List.setIfInBounds_toArray, List.set_cons_zero, List.set_cons_succ]
        refine wpAnyH_done (by kernel_rfl) ?_ _
        have hq5 := hq1.trans (hbd.mono hq1.size)
        obtain ⟨vs, h1, h2, h3⟩ := hu
        have hwi := hq1.size
        rw [List.length_map] at h1 h2
        have hr : SlR (fun b => w.heap.size ≤ b) wd u ((clqs (netsL g)).map bitsI) := RowsTo.rows (vs := vs) ⟨by rw [List.length_map]; omega, fun i hi hi2 => (h3 i hi2 hi).weak fun b hb => by rcases hb.1 with e | e <;> omega⟩ (by rw [List.length_map]; exact h1) (fun b hb => by have := (h2.lt b hb).1; omega) h2 (by omega)
        clear h1 h2 h3 hHeld
        go_wp2
        go_ret
        exact ⟨_, rfl, hr, hq5⟩
    case b191_5 =>
      go_simp
      obtain ⟨nb, hnb⟩ : ∃ nb, nb = wd.heap.size := ⟨_, rfl⟩
      rw [← hnb]
      have hnw : wi.heap.size ≤ nb := (by rw [hnb]; exact hbd.size)
      have hbn : Below wd.heap.size wd (wd.alloc (.cells #[] 2)) := (Below.refl _ _).alloc (Nat.le_refl _) _
      have hx : SlI (fun b => wi.heap.size ≤ b) (wd.alloc (.cells #[] 2)) .i64 (.slice (some ⟨nb, 0, none⟩) 0 0) [] := (by rw [hnb]; exact (SlI.lit0V wd).weak fun b hb => by rw [hb, ← hnb]; exact hnw)
      try have ha := ha.below hbn (Nat.le_refl _)
      try have hl := hl.below hbn (Nat.le_refl _)
      have hbd := hbd.trans (hbn.mono hbd.size)
      clear hnb hbn hnw e0
      generalize wd.alloc (.cells #[] 2) = wy at *
      obtain ⟨wd, rfl⟩ : ∃ x, x = wy := ⟨_, rfl⟩
      have e0 := (hbd.cell (cell_lt c1)).trans c1
      try dsimp only
      refine hK.out _ _ ?h220 (fun hHeld => ?_)
      case h220 => first | exact ‹_› | (simp [*, go_sem])
      clear hK K
      try simp only [Act.put, List.setIfInBounds_toArray, List.set_cons_zero, List.set_cons_succ]
      refine wpAnyH_ready (rs := [1, 4]) (by kernel_rfl) (by simp) ?_
      refine (AllReadyH.cons (by simp only [List.getElem?_toArray, List.getElem?_cons_succ, List.getElem?_cons_zero]; exact rfl) (fun K hK => ?b221_1) (AllReadyH.cons (by simp only [List.getElem?_toArray, List.getElem?_cons_succ, List.getElem?_cons_zero]; exact rfl) (fun K hK => ?b221_4) AllReadyH.nil))
      case b221_1 =>
        go_simp
        obtain ⟨nb, hnb⟩ : ∃ nb, nb = wd.heap.size := ⟨_, rfl⟩
        rw [← hnb]
        have hnw : wi.heap.size ≤ nb := (by rw [hnb]; exact hbd.size)
        have hbn : Below wd.heap.size wd (wd.alloc (.cells #[] 2)) := (Below.refl _ _).alloc (Nat.le_refl _) _
        have ha : SlI (fun b => wi.heap.size ≤ b) (wd.alloc (.cells #[] 2)) .i64 (.slice (some ⟨nb, 0, none⟩) 0 0) [] := (by rw [hnb]; exact (SlI.lit0V wd).weak fun b hb => by rw [hb, ← hnb]; exact hnw)
        try have hl := hl.below hbn (Nat.le_refl _)
        try have hx := hx.below hbn (Nat.le_refl _)
        have hbd := hbd.trans (hbn.mono hbd.size)
        clear hnb hbn hnw e0
        generalize wd.alloc (.cells #[] 2) = wy at *
        obtain ⟨wd, rfl⟩ : ∃ x, x = wy := ⟨_, rfl⟩
        have e0 := (hbd.cell (cell_lt c1)).trans c1
        try dsimp only
        refine hK.out _ _ ?h222 (fun hHeld => ?_)
        case h222 => first | exact ‹_› | (simp [*, go_sem])
        clear hK K
        try simp only [Act.put, List.setIfInBounds_toArray, List.set_cons_zero, List.set_cons_succ]
        refine wpAnyH_ready (rs := [4]) (by kernel_rfl) (by simp) ?_
        refine AllReadyH.cons (by simp only [List.getElem?_toArray, List.getElem?_cons_succ, List.getElem?_cons_zero]; exact rfl) (fun K hK => ?_) AllReadyH.nil
        go_simp
        refine (HALL.out wd).mono ?_
        rintro e wy ⟨lv, rfl, hl0, hb5⟩
        have hl := hl0.ints (by simp [natsI]; omega)
        try have ha := ha.below hb5 (Nat.le_refl _)
        try have hx := hx.below hb5 (Nat.le_refl _)
        have hbd := hbd.trans (hb5.mono hbd.size)
        clear hb5 e0 hl0
        obtain ⟨wd, rfl⟩ : ∃ x, x = wy := ⟨_, rfl⟩
        have e0 := (hbd.cell (cell_lt c1)).trans c1
        try dsimp only
        refine hK.out _ _ ?h224 (fun hHeld => ?_)
        case h224 => first | exact ‹_› | (simp [*, go_sem])
        clear hK K
        try simp only [Act.put, List.setIfInBounds_toArray, List.set_cons_zero, List.set_cons_succ]
        refine wpAnyH_ready (rs := [6]) (by kernel_rfl) (by simp) ?_
        refine AllReadyH.cons (by simp only [List.getElem?_toArray, List.getElem?_cons_succ, List.getElem?_cons_zero]; exact rfl) (fun K hK => ?_) AllReadyH.nil
        go_simp
        refine (HCL.out _ _ _ _ _ _ wd (hq1.trans (hbd.mono hq1.size)) ha hl hx).mono ?_
        rintro e wy ⟨u, rfl, hu, hb5⟩
        have hbz := hbd.size
        have hbd := hbd.trans (hb5.mono hbd.size)
        obtain ⟨N8, hN8⟩ : ∃ n, n = wd.heap.size := ⟨_, rfl⟩
        rw [← hN8] at hu
        have hN8i : wi.heap.size ≤ N8 := (by rw [hN8]; exact hbz)
        clear hb5 e0 hN8 hbz
        obtain ⟨wd, rfl⟩ : ∃ x, x = wy := ⟨_, rfl⟩
        have e0 := (hbd.cell (cell_lt c1)).trans c1
        try dsimp only
        refine hK.out _ _ ?h226 (fun hHeld => ?_)
        case h226 => first | exact ‹_› | (simp [*, go_sem])
        clear hK K
        try simp only [Act.put, List.setIfInBounds_toArray, List.set_cons_zero, List.set_cons_succ]
        refine wpAnyH_take (i := 7) (v := ?v227) (by simp only [List.getElem?_toArray, List.getElem?_cons_succ, List.getElem?_cons_zero]; exact rfl) (by kernel_rfl) (by kernel_rfl) (by kernel_rfl) (by intro _ _ _ h; exact h) (Or.inl ⟨by rfl, ?y227⟩) hHeld ?_
        case y227 => (intro w hSw; (try dsimp only at hSw); go_simp; try (with_reducible rfl))
        try simp only [Act.put, List.setIfInBounds_toArray, List.set_cons_zero, List.set_cons_succ]
        refine wpAnyH_done (by kernel_rfl) ?_ _
        have hq5 := hq1.trans (hbd.mono hq1.size)
        obtain ⟨vs, h1, h2, h3⟩ := hu
        have hwi := hq1.size
        rw [List.length_map] at h1 h2
        have hr : SlR (fun b => w.heap.size ≤ b) wd u ((clqs (netsL g)).map bitsI) := RowsTo.rows (vs := vs) ⟨by rw [List.length_map]; omega, fun i hi hi2 => (h3 i hi2 hi).weak fun b hb => by rcases hb.1 with e | e <;> omega⟩ (by rw [List.length_map]; exact h1) (fun b hb => by have := (h2.lt b hb).1; omega) h2 (by omega)
        clear h1 h2 h3 hHeld
        go_wp2
        go_ret
        exact ⟨_, rfl, hr, hq5⟩
      case b221_4 =>
        go_simp
        refine (HALL.out wd).mono ?_
        rintro e wy ⟨lv, rfl, hl0, hb5⟩
        have hl := hl0.ints (by simp [natsI]; omega)
        try have ha := ha.below hb5 (Nat.le_refl _)
        try have hx := hx.below hb5 (Nat.le_refl _)
        have hbd := hbd.trans (hb5.mono hbd.size)
        clear hb5 e0 hl0
        obtain ⟨wd, rfl⟩ : ∃ x, x = wy := ⟨_, rfl⟩
        have e0 := (hbd.cell (cell_lt c1)).trans c1
        try dsimp only
        refine hK.out _ _ ?h228 (fun hHeld => ?_)
        case h228 => first | exact ‹_› | (simp [*, go_sem])
        clear hK K
        try simp only [Act.put, List.setIfInBounds_toArray, List.set_cons_zero, List.set_cons_succ]
        refine wpAnyH_ready (rs := [1]) (by kernel_rfl) (by simp) ?_
        refine AllReadyH.cons (by simp only [List.getElem?_toArray, List.getElem?_cons_succ, List.getElem?_cons_zero]; exact rfl) (fun K hK => ?_) AllReadyH.nil
        go_simp
        obtain ⟨nb, hnb⟩ : ∃ nb, nb = wd.heap.size := ⟨_, rfl⟩
        rw [← hnb]
        have hnw : wi.heap.size ≤ nb := (by rw [hnb]; exact hbd.size)
        have hbn : Below wd.heap.size wd (wd.alloc (.cells #[] 2)) := (Below.refl _ _).alloc (Nat.le_refl _) _
        have ha : SlI (fun b => wi.heap.size ≤ b) (wd.alloc (.cells #[] 2)) .i64 (.slice (some ⟨nb, 0, none⟩) 0 0) [] := (by rw [hnb]; exact (SlI.lit0V wd).weak fun b hb => by rw [hb, ← hnb]; exact hnw)
        try have hl := hl.below hbn (Nat.le_refl _)
        try have hx := hx.below hbn (Nat.le_refl _)
        have hbd := hbd.trans (hbn.mono hbd.size)
        clear hnb hbn hnw e0
        generalize wd.alloc (.cells #[] 2) = wy at *
        obtain ⟨wd, rfl⟩ : ∃ x, x = wy := ⟨_, rfl⟩
        have e0 := (hbd.cell (cell_lt c1)).trans c1
        try dsimp only
        refine hK.out _ _ ?h230 (fun hHeld => ?_)
        case h230 => first | exact ‹_› | (simp [*, go_sem])
        clear hK K
        try simp only [Act.put, List.setIfInBounds_toArray, List.set_cons_zero, List.set_cons_succ]
        refine wpAnyH_ready (rs := [6]) (by kernel_rfl) (by simp) ?_
        refine AllReadyH.cons (by simp only [List.getElem?_toArray, List.getElem?_cons_succ, List.getElem?_cons_zero]; exact rfl) (fun K hK => ?_) AllReadyH.nil
        go_simp
        refine (HCL.out _ _ _ _ _ _ wd (hq1.trans (hbd.mono hq1.size)) ha hl hx).mono ?_
        rintro e wy ⟨u, rfl, hu, hb5⟩
        have hbz := hbd.size
        have hbd := hbd.trans (hb5.mono hbd.size)
        obtain ⟨N8, hN8⟩ : ∃ n, n = wd.heap.size := ⟨_, rfl⟩
        rw [← hN8] at hu
        have hN8i : wi.heap.size ≤ N8 := (by rw [hN8]; exact hbz)
        clear hb5 e0 hN8 hbz
        obtain ⟨wd, rfl⟩ : ∃ x, x = wy := ⟨_, rfl⟩
        have e0 := (hbd.cell (cell_lt c1)).trans c1
        try dsimp only
        refine hK.out _ _ ?h232 (fun hHeld => ?_)
        case h232 => first | exact ‹_› | (simp [*, go_sem])
        clear hK K
        try simp only [Act.put, List.setIfInBounds_toArray, List.set_cons_zero, List.set_cons_succ]
        refine wpAnyH_take (i := 7) (v := ?v233) (by simp only [List.getElem?_toArray, List.getElem?_cons_succ, List.getElem?_cons_zero]; exact rfl) (by kernel_rfl) (by kernel_rfl) (by kernel_rfl) (by intro _ _ _ h; exact h) (Or.inl ⟨by rfl, ?y233⟩) hHeld ?_
        case y233 => (intro w hSw; (try dsimp only at hSw); go_simp; try (with_reducible rfl))
        try simp only [Act.put, List.setIfInBounds_toArray, List.set_cons_zero, List.set_cons_succ]
        refine wpAnyH_done (by kernel_rfl) ?_ _
        have hq5 := hq1.trans (hbd.mono hq1.size)
        obtain ⟨vs, h1, h2, h3⟩ := hu
        have hwi := hq1.size
        rw [List.length_map] at h1 h2
        have hr : SlR (fun b => w.heap.size ≤ b) wd u ((clqs (netsL g)).map bitsI) := RowsTo.rows (vs := vs) ⟨by rw [List.length_map]; omega, fun i hi hi2 => (h3 i hi2 hi).weak fun b hb => by rcases hb.1 with e | e <;> omega⟩ (by rw [List.length_map]; exact h1) (fun b hb => by have := (h2.lt b hb).1; omega) h2 (by omega)
        clear h1 h2 h3 hHeld
        go_wp2
        go_ret
        exact ⟨_, rfl, hr, hq5⟩
  case b165_5 =>
    go_simp
    obtain ⟨nb, hnb⟩ : ∃ nb, nb = wd.heap.size := ⟨_, rfl⟩
    rw [← hnb]
    have hnw : wi.heap.size ≤ nb := (by rw [hnb]; exact hbd.size)
    have hbn : Below wd.heap.size wd (wd.alloc (.cells #[] 2)) := (Below.refl _ _).alloc (Nat.le_refl _) _
    have hx : SlI (fun b => wi.heap.size ≤ b) (wd.alloc (.cells #[] 2)) .i64 (.slice (some ⟨nb, 0, none⟩) 0 0) [] := (by rw [hnb]; exact (SlI.lit0V wd).weak fun b hb => by rw [hb, ← hnb]; exact hnw)
    try have ha := ha.below hbn (Nat.le_refl _)
    try have hl := hl.below hbn (Nat.le_refl _)
    have hbd := hbd.trans (hbn.mono hbd.size)
    clear hnb hbn hnw e0
    generalize wd.alloc (.cells #[] 2) = wy at *
    obtain ⟨wd, rfl⟩ : ∃ x, x = wy := ⟨_, rfl⟩
    have e0 := (hbd.cell (cell_lt c1)).trans c1
    try dsimp only
    refine hK.out _ _ ?h234 (fun hHeld => ?_)
    case h234 => first | exact ‹_› | (simp [*, go_sem])
    clear hK K
    try simp only [Act.put, List.setIfInBounds_toArray, List.set_cons_zero, List.set_cons_succ]
    refine wpAnyH_ready (rs := [1, 3]) (by kernel_rfl) (by simp) ?_
    refine (AllReadyH.cons (by simp only [List.getElem?_toArray, List.getElem?_cons_succ, List.getElem?_cons_zero]; exact rfl) (fun K hK => ?b235_1) (AllReadyH.cons (by simp only [List.getElem?_toArray, List.getElem?_cons_succ, List.getElem?_cons_zero]; exact rfl) (fun K hK => ?b235_3) AllReadyH.nil))
    case b235_1 =>
      go_simp
      obtain ⟨nb, hnb⟩ : ∃ nb, nb = wd.heap.size := ⟨_, rfl⟩
      rw [← hnb]
      have hnw : wi.heap.size ≤ nb := (by rw [hnb]; exact hbd.size)
      have hbn : Below wd.heap.size wd (wd.alloc (.cells #[] 2)) := (Below.refl _ _).alloc (Nat.le_refl _) _
      have ha : SlI (fun b => wi.heap.size ≤ b) (wd.alloc (.cells #[] 2)) .i64 (.slice (some ⟨nb, 0, none⟩) 0 0) [] := (by rw [hnb]; exact (SlI.lit0V wd).weak fun b hb => by rw [hb, ← hnb]; exact hnw)
      try have hl := hl.below hbn (Nat.le_refl _)
      try have hx := hx.below hbn (Nat.le_refl _)
      have hbd := hbd.trans (hbn.mono hbd.size)
      clear hnb hbn hnw e0
      generalize wd.alloc (.cells #[] 2) = wy at *
      obtain ⟨wd, rfl⟩ : ∃ x, x = wy := ⟨_, rfl⟩
      have e0 := (hbd.cell (cell_lt c1)).trans c1
      try dsimp only
      refine hK.out _ _ ?h236 (fun hHeld => ?_)
      case h236 => first | exact ‹_› | (simp [*, go_sem])
      clear hK K
      try simp only [Act.put, List.setIfInBounds_toArray, List.set_cons_zero, List.set_cons_succ]
      refine wpAnyH_ready (rs := [3]) (by kernel_rfl) (by simp) ?_
      refine AllReadyH.cons (by simp only [List.getElem?_toArray, List.getElem?_cons_succ, List.getElem?_cons_zero]; exact rfl) (fun K hK => ?_) AllReadyH.nil
      go_simp
      refine (HSZ.out wd (hq1.trans (hbd.mono hq1.size))).mono ?_
      rintro e wy ⟨rfl, hb5⟩
      try have ha := ha.below hb5 (Nat.le_refl _)
      try have hl := hl.below hb5 (Nat.le_refl _)
      try have hx := hx.below hb5 (Nat.le_refl _)
      have hbd := hbd.trans (hb5.mono hbd.size)
      clear hb5 e0
      obtain ⟨wd, rfl⟩ : ∃ x, x = wy := ⟨_, rfl⟩
      have e0 := (hbd.cell (cell_lt c1)).trans c1
      try dsimp only
      refine hK.out _ _ ?h238 (fun hHeld => ?_)
      case h238 => first | exact ‹_› | (simp [*, go_sem])
      clear hK K
      try simp only [Act.put, List.setIfInBounds_toArray, List.set_cons_zero, List.set_cons_succ]
      refine wpAnyH_ready (rs := [4]) (by kernel_rfl) (by simp) ?_
      refine AllReadyH.cons (by simp only [List.getElem?_toArray, List.getElem?_cons_succ, List.getElem?_cons_zero]; exact rfl) (fun K hK => ?_) AllReadyH.nil
      go_simp
      refine (HALL.out wd).mono ?_
      rintro e wy ⟨lv, rfl, hl0, hb5⟩
      have hl := hl0.ints (by simp [natsI]; omega)
      try have ha := ha.below hb5 (Nat.le_refl _)
      try have hx := hx.below hb5 (Nat.le_refl _)
      have hbd := hbd.trans (hb5.mono hbd.size)
      clear hb5 e0 hl0
      obtain ⟨wd, rfl⟩ : ∃ x, x = wy := ⟨_, rfl⟩
      have e0 := (hbd.cell (cell_lt c1)).trans c1
      try dsimp only
      refine hK.out _ _ ?h240 (fun hHeld => ?_)
      case h240 => first | exact ‹_› | (simp [*, go_sem])
      clear hK K
      try simp only [Act.put, List.setIfInBounds_toArray, List.set_cons_zero, List.set_cons_succ]
      refine wpAnyH_ready (rs := [6]) (by kernel_rfl) (by simp) ?_
      refine AllReadyH.cons (by simp only [List.getElem?_toArray, List.getElem?_cons_succ, List.getElem?_cons_zero]; exact rfl) (fun K hK => ?_) AllReadyH.nil
      go_simp
      refine (HCL.out _ _ _ _ _ _ wd (hq1.trans (hbd.mono hq1.size)) ha hl hx).mono ?_
      rintro e wy ⟨u, rfl, hu, hb5⟩
      have hbz := hbd.size
      have hbd := hbd.trans (hb5.mono hbd.size)
      obtain ⟨N8, hN8⟩ : ∃ n, n = wd.heap.size := ⟨_, rfl⟩
      rw [← hN8] at hu
      have hN8i : wi.heap.size ≤ N8 := (by rw [hN8]; exact hbz)
      clear hb5 e0 hN8 hbz
      obtain ⟨wd, rfl⟩ : ∃ x, x = wy := ⟨_, rfl⟩
      have e0 := (hbd.cell (cell_lt c1)).trans c1
      try dsimp only
      refine hK.out _ _ ?h242 (fun hHeld => ?_)
      case h242 => first | exact ‹_› | (simp [*, go_sem])
      clear hK K
      try simp only [Act.put, List.setIfInBounds_toArray, List.set_cons_zero, List.set_cons_succ]
      refine wpAnyH_take (i := 7) (v := ?v243) (by simp only [List.getElem?_toArray, List.getElem?_cons_succ, List.getElem?_cons_zero]; exact rfl) (by kernel_rfl) (by kernel_rfl) (by kernel_rfl) (by intro _ _ _ h; exact h) (Or.inl ⟨by rfl, ?y243⟩) hHeld ?_
      case y243 => (intro w hSw; (try dsimp only at hSw); go_simp; try (with_reducible rfl))
      try simp only [Act.put, List.setIfInBounds_toArray, List.set_cons_zero, List.set_cons_succ]
      refine wpAnyH_done (by kernel_rfl) ?_ _
      have hq5 := hq1.trans (hbd.mono hq1.size)
      obtain ⟨vs, h1, h2, h3⟩ := hu
      have hwi := hq1.size
      rw [List.length_map] at h1 h2
      have hr : SlR (fun b => w.heap.size ≤ b) wd u ((clqs (netsL g)).map bitsI) := RowsTo.rows (vs := vs) ⟨by rw [List.length_map]; omega, fun i hi hi2 => (h3 i hi2 hi).weak fun b hb => by rcases hb.1 with e | e <;> omega⟩ (by rw [List.length_map]; exact h1) (fun b hb => by have := (h2.lt b hb).1; omega) h2 (by omega)
      clear h1 h2 h3 hHeld
      go_wp2
      go_ret
      exact ⟨_, rfl, hr, hq5⟩
    case b235_3 =>
      go_simp
      refine (HSZ.out wd (hq1.trans (hbd.mono hq1.size))).mono ?_
      rintro e wy ⟨rfl, hb5⟩
      try have ha := ha.below hb5 (Nat.le_refl _)
      try have hl := hl.below hb5 (Nat.le_refl _)
      try have hx := hx.below hb5 (Nat.le_refl _)
      have hbd := hbd.trans (hb5.mono hbd.size)
      clear hb5 e0
      obtain ⟨wd, rfl⟩ : ∃ x, x = wy := ⟨_, rfl⟩
      have e0 := (hbd.cell (cell_lt c1)).trans c1
      try dsimp only
      refine hK.out _ _ ?h244 (fun hHeld => ?_)
      case h244 => first | exact ‹_› | (simp [*, go_sem])
      clear hK K
      try simp only [Act.put, List.setIfInBounds_toArray, List.set_cons_zero, List.set_cons_succ]
      refine wpAnyH_ready (rs := [1, 4]) (by kernel_rfl) (by simp) ?_
      refine (AllReadyH.cons (by simp only [List.getElem?_toArray, List.getElem?_cons_succ, List.getElem?_cons_zero]; exact rfl) (fun K hK => ?b245_1) (AllReadyH.cons (by simp only [List.getElem?_toArray, List.getElem?_cons_succ, List.getElem?_cons_zero]; exact rfl) (fun K hK => ?b245_4) AllReadyH.nil))
      case b245_1 =>
        go_simp
        obtain ⟨nb, hnb⟩ : ∃ nb, nb = wd.heap.size := ⟨_, rfl⟩
        rw [← hnb]
        have hnw : wi.heap.size ≤ nb := (by rw [hnb]; exact hbd.size)
        have hbn : Below wd.heap.size wd (wd.alloc (.cells #[] 2)) := (Below.refl _ _).alloc (Nat.le_refl _) _
        have ha : SlI (fun b => wi.heap.size ≤ b) (wd.alloc (.cells #[] 2)) .i64 (.slice (some ⟨nb, 0, none⟩) 0 0) [] := (by rw [hnb]; exact (SlI.lit0V wd).weak fun b hb => by rw [hb, ← hnb]; exact hnw)
        try have hl := hl.below hbn (Nat.le_refl _)
        try have hx := hx.below hbn (Nat.le_refl _)
        have hbd := hbd.trans (hbn.mono hbd.size)
        clear hnb hbn hnw e0
        generalize wd.alloc (.cells #[] 2) = wy at *
        obtain ⟨wd, rfl⟩ : ∃ x, x = wy := ⟨_, rfl⟩
        have e0 := (hbd.cell (cell_lt c1)).trans c1
        try dsimp only
        refine hK.out _ _ ?h246 (fun hHeld => ?_)
        case h246 => first | exact ‹_› | (simp [*, go_sem])
        clear hK K
        try simp only [Act.put, List.setIfInBounds_toArray, List.set_cons_zero, List.set_cons_succ]
        refine wpAnyH_ready (rs := [4]) (by kernel_rfl) (by simp) ?_
        refine AllReadyH.cons (by simp only [List.getElem?_toArray, List.getElem?_cons_succ, List.getElem?_cons_zero]; exact rfl) (fun K hK => ?_) AllReadyH.nil
        go_simp
        refine (HALL.out wd).mono ?_
        rintro e wy ⟨lv, rfl, hl0, hb5⟩
        have hl := hl0.ints (by simp [natsI]; omega)
        try have ha := ha.below hb5 (Nat.le_refl _)
        try have hx := hx.below hb5 (Nat.le_refl _)
        have hbd := hbd.trans (hb5.mono hbd.size)
        clear hb5 e0 hl0
        obtain ⟨wd, rfl⟩ : ∃ x, x = wy := ⟨_, rfl⟩
        have e0 := (hbd.cell (cell_lt c1)).trans c1
        try dsimp only
        refine hK.out _ _ ?h248 (fun hHeld => ?_)
        case h248 => first | exact ‹_› | (simp [*, go_sem])
        clear hK K
        try simp only [Act.put, List.setIfInBounds_toArray, List.set_cons_zero, List.set_cons_succ]
        refine wpAnyH_ready (rs := [6]) (by kernel_rfl) (by simp) ?_
        refine AllReadyH.cons (by simp only [List.getElem?_toArray, List.getElem?_cons_succ, List.getElem?_cons_zero]; exact rfl) (fun K hK => ?_) AllReadyH.nil
        go_simp
        refine (HCL.out _ _ _ _ _ _ wd (hq1.trans (hbd.mono hq1.size)) ha hl hx).mono ?_
        rintro e wy ⟨u, rfl, hu, hb5⟩
        have hbz := hbd.size
        have hbd := hbd.trans (hb5.mono hbd.size)
        obtain ⟨N8, hN8⟩ : ∃ n, n = wd.heap.size := ⟨_, rfl⟩
        rw [← hN8] at hu
        have hN8i : wi.heap.size ≤ N8 := (by rw [hN8]; exact hbz)
        clear hb5 e0 hN8 hbz
        obtain ⟨wd, rfl⟩ : ∃ x, x = wy := ⟨_, rfl⟩
        have e0 := (hbd.cell (cell_lt c1)).trans c1
        try dsimp only
        refine hK.out _ _ ?h250 (fun hHeld => ?_)
        case h250 => first | exact ‹_› | (simp [*, go_sem])
        clear hK K
        try simp only [Act.put, List.setIfInBounds_toArray, List.set_cons_zero, List.set_cons_succ]
        refine wpAnyH_take (i := 7) (v := ?v251) (by simp only [List.getElem?_toArray, List.getElem?_cons_succ, List.getElem?_cons_zero]; exact rfl) (by kernel_rfl) (by kernel_rfl) (by kernel_rfl) (by intro _ _ _ h; exact h) (Or.inl ⟨by rfl, ?y251⟩) hHeld ?_
        case y251 => (intro w hSw; (try dsimp only at hSw); go_simp; try (with_reducible rfl))
        try simp only [Act.put, List.setIfInBounds_toArray, List.set_cons_zero, List.set_cons_succ]
        refine wpAnyH_done (by kernel_rfl) ?_ _
        have hq5 := hq1.trans (hbd.mono hq1.size)
        obtain ⟨vs, h1, h2, h3⟩ := hu
        have hwi := hq1.size
        rw [List.length_map] at h1 h2
        have hr : SlR (fun b => w.heap.size ≤ b) wd u ((clqs (netsL g)).map bitsI) := RowsTo.rows (vs := vs) ⟨by rw [List.length_map]; omega, fun i hi hi2 => (h3 i hi2 hi).weak fun b hb => by rcases hb.1 with e | e <;> omega⟩ (by rw [List.length_map]; exact h1) (fun b hb => by have := (h2.lt b hb).1; omega) h2 (by omega)
        clear h1 h2 h3 hHeld
        go_wp2
        go_ret
        exact ⟨_, rfl, hr, hq5⟩
      case b245_4 =>
        go_simp
        refine (HALL.out wd).mono ?_
        rintro e wy ⟨lv, rfl, hl0, hb5⟩
        have hl := hl0.ints (by simp [natsI]; omega)
        try have ha := ha.below hb5 (Nat.le_refl _)
        try have hx := hx.below hb5 (Nat.le_refl _)
        have hbd := hbd.trans (hb5.mono hbd.size)
        clear hb5 e0 hl0
        obtain ⟨wd, rfl⟩ : ∃ x, x = wy := ⟨_, rfl⟩
        have e0 := (hbd.cell (cell_lt c1)).trans c1
        try dsimp only
        refine hK.out _ _ ?h252 (fun hHeld => ?_)
        case h252 => first | exact ‹_› | (simp [*, go_sem])
        clear hK K
        try simp only [Act.put, List.setIfInBounds_toArray, List.set_cons_zero, List.set_cons_succ]
        refine wpAnyH_ready (rs := [1]) (by kernel_rfl) (by simp) ?_
        refine AllReadyH.cons (by simp only [List.getElem?_toArray, List.getElem?_cons_succ, List.getElem?_cons_zero]; exact rfl) (fun K hK => ?_) AllReadyH.nil
        go_simp
        obtain ⟨nb, hnb⟩ : ∃ nb, nb = wd.heap.size := ⟨_, rfl⟩
        rw [← hnb]
        have hnw : wi.heap.size ≤ nb := (by rw [hnb]; exact hbd.size)
        have hbn : Below wd.heap.size wd (wd.alloc (.cells #[] 2)) := (Below.refl _ _).alloc (Nat.le_refl _) _
        have ha : SlI (fun b => wi.heap.size ≤ b) (wd.alloc (.cells #[] 2)) .i64 (.slice (some ⟨nb, 0, none⟩) 0 0) [] := (by rw [hnb]; exact (SlI.lit0V wd).weak fun b hb => by rw [hb, ← hnb]; exact hnw)
        try have hl := hl.below hbn (Nat.le_refl _)
        try have hx := hx.below hbn (Nat.le_refl _)
        have hbd := hbd.trans (hbn.mono hbd.size)
        clear hnb hbn hnw e0
        generalize wd.alloc (.cells #[] 2) = wy at *
        obtain ⟨wd, rfl⟩ : ∃ x, x = wy := ⟨_, rfl⟩
        have e0 := (hbd.cell (cell_lt c1)).trans c1
        try dsimp only
        refine hK.out _ _ ?h254 (fun hHeld => ?_)
        case h254 => first | exact ‹_› | (simp [*, go_sem])
        clear hK K
        try simp only [Act.put, List.setIfInBounds_toArray, List.set_cons_zero, List.set_cons_succ]
        refine wpAnyH_ready (rs := [6]) (by kernel_rfl) (by simp) ?_
        refine AllReadyH.cons (by simp only [List.getElem?_toArray, List.getElem?_cons_succ, List.getElem?_cons_zero]; exact rfl) (fun K hK => ?_) AllReadyH.nil
        go_simp
        refine (HCL.out _ _ _ _ _ _ wd (hq1.trans (hbd.mono hq1.size)) ha hl hx).mono ?_
        rintro e wy ⟨u, rfl, hu, hb5⟩
        have hbz := hbd.size
        have hbd := hbd.trans (hb5.mono hbd.size)
        obtain ⟨N8, hN8⟩ : ∃ n, n = wd.heap.size := ⟨_, rfl⟩
        rw [← hN8] at hu
        have hN8i : wi.heap.size ≤ N8 := (by rw [hN8]; exact hbz)
        clear hb5 e0 hN8 hbz
        obtain ⟨wd, rfl⟩ : ∃ x, x = wy := ⟨_, rfl⟩
        have e0 := (hbd.cell (cell_lt c1)).trans c1
        try dsimp only
        refine hK.out _ _ ?h256 (fun hHeld => ?_)
        case h256 => first | exact ‹_› | (simp [*, go_sem])
        clear hK K
        try simp only [Act.put, List.setIfInBounds_toArray, List.set_cons_zero, List.set_cons_succ]
        refine wpAnyH_take (i := 7) (v := ?v257) (by simp only [List.getElem?_toArray, List.getElem?_cons_succ, List.getElem?_cons_zero]; exact rfl) (by kernel_rfl) (by kernel_rfl) (by kernel_rfl) (by intro _ _ _ h; exact h) (Or.inl ⟨by rfl, ?y257⟩) hHeld ?_
        case y257 => (intro w hSw; (try dsimp only at hSw); go_simp; try (with_reducible rfl))
        try simp only [Act.put, List.setIfInBounds_toArray, List.set_cons_zero, List.set_cons_succ]
        refine wpAnyH_done (by kernel_rfl) ?_ _
        have hq5 := hq1.trans (hbd.mono hq1.size)
        obtain ⟨vs, h1, h2, h3⟩ := hu
        have hwi := hq1.size
        rw [List.length_map] at h1 h2
        have hr : SlR (fun b => w.heap.size ≤ b) wd u ((clqs (netsL g)).map bitsI) := RowsTo.rows (vs := vs) ⟨by rw [List.length_map]; omega, fun i hi hi2 => (h3 i hi2 hi).weak fun b hb => by rcases hb.1 with e | e <;> omega⟩ (by rw [List.length_map]; exact h1) (fun b hb => by have := (h2.lt b hb).1; omega) h2 (by omega)
        clear h1 h2 h3 hHeld
        go_wp2
        go_ret
        exact ⟨_, rfl, hr, hq5⟩
end Go.Proofs.YtpdlcnpmljfclaaDoor
