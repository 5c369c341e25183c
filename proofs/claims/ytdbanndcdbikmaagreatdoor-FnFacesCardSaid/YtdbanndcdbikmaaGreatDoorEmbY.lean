/- l22All and EmbeddingsMany of the reference. -/
import Derived.Test.YtdbanndcdbikmaaGreatDoorEmbW
import Derived.Test.YtdbanndcdbikmaaGreatDoorFit4
namespace Go.Proofs.YtdbanndcdbikmaaGreatDoor
open Go.RowKit
def edgesTP (H : List Nat) : Nat → List NP
  | 0 => []
  | k + 1 => edgesTP H k ++ ((bitsN (H.getD k 0)).filter fun v => decide (k < v)).map fun v => (k, v)
def edgesP (g : List (List Int)) : List NP := edgesTP (netsL g) g.length
theorem mem_edgesTP {H : List Nat} (hH : ∀ v, H.getD v 0 < 4294967296) {a b : Nat} : ∀ {k : Nat}, (a, b) ∈ edgesTP H k ↔ a < k ∧ a < b ∧ (H.getD a 0).testBit b = true
  | 0 => by simp [edgesTP]
  | k + 1 => by
    rw [edgesTP, List.mem_append, mem_edgesTP hH (k := k), List.mem_map]
    constructor
    · rintro (⟨h1, h2⟩ | ⟨v, hv, e⟩)
      · exact ⟨by omega, h2⟩
      · simp only [Prod.mk.injEq] at e
        obtain ⟨rfl, rfl⟩ := e
        obtain ⟨h1, h2⟩ := List.mem_filter.1 hv
        exact ⟨by omega, of_decide_eq_true h2, (mem_bitsN (hH _)).1 h1⟩
    · rintro ⟨h1, h2, h3⟩
      by_cases e : a = k
      · subst e
        exact .inr ⟨b, List.mem_filter.2 ⟨(mem_bitsN (hH _)).2 h3, decide_eq_true h2⟩, rfl⟩
      · exact .inl ⟨by omega, h2, h3⟩
theorem edgesTP_nd {H : List Nat} (hH : ∀ v, H.getD v 0 < 4294967296) : ∀ k, (edgesTP H k).Nodup
  | 0 => by simp [edgesTP]
  | k + 1 => by
    rw [edgesTP, List.nodup_append]
    refine ⟨edgesTP_nd hH k, ?_, fun a ha b hb e => ?_⟩
    · rw [List.Nodup, List.pairwise_map]
      exact ((bitsN_sorted _).filter _).imp fun hlt e => by simp only [Prod.mk.injEq] at e; omega
    · subst e
      obtain ⟨v, hv, rfl⟩ := List.mem_map.1 hb
      have := (mem_edgesTP hH).1 ha
      omega
theorem netW_of {g : List (List Int)} (hg : GOk g) : NetW (netsL g) :=
  ⟨by rw [netsL_len]; exact hg.hi, net_lt32 hg, fun _ _ h => (net_sym hg h).2.2.2, net_irr hg, fun x y h => by
    rw [netsL_len]
    have := (net_sym hg h).2.2.2
    exact ((net_bit hg).1 this).1⟩
theorem edgesP_ok {g : List (List Int)} (hg : GOk g) : EdgeL g.length (edgesP g) ∧ ∀ a b, putB (edgesP g) a b = true ↔ ((netsL g).getD a 0).testBit b = true := by
  have hN := netW_of hg
  have hin : ∀ x y, ((netsL g).getD x 0).testBit y = true → x < g.length ∧ y < g.length := fun x y h => by
    have h1 := hN.inn _ _ h
    have h2 := hN.inn _ _ (hN.sym _ _ h)
    rw [netsL_len] at h1 h2
    exact ⟨h2, h1⟩
  have hm : ∀ a b, (a, b) ∈ edgesP g ↔ a < b ∧ ((netsL g).getD a 0).testBit b = true := fun a b => by
    unfold edgesP
    rw [mem_edgesTP hN.lt]
    exact ⟨fun h => h.2, fun h => ⟨(hin _ _ h.2).1, h⟩⟩
  refine ⟨⟨hg.hi, edgesTP_nd hN.lt _, fun e he hc => ?_, fun e he => ?_⟩, fun a b => ?_⟩
  · have h1 := ((hm e.1 e.2).1 he).1
    have h2 := ((hm e.2 e.1).1 hc).1
    omega
  · have h1 := (hm e.1 e.2).1 he
    have h2 := hin _ _ h1.2
    exact ⟨h2.1, h2.2, by omega⟩
  · unfold putB
    rw [decide_eq_true_eq, hm, hm]
    constructor
    · rintro (h | h)
      · exact h.2
      · exact hN.sym _ _ h.2
    · intro h
      rcases Nat.lt_trichotomy a b with h1 | h1 | h1
      · exact .inl ⟨h1, h⟩
      · subst h1; rw [hN.irr] at h; cases h
      · exact .inr ⟨h1, hN.sym _ _ h⟩
theorem edgesP_rows {g : List (List Int)} (hg : GOk g) : rowsP (edgesP g) = edgesL g := by
  have key : ∀ k, k ≤ g.length → rowsP (edgesTP (netsL g) k) = edgesTo g k := fun k => by
    induction k with
    | zero => intro _; rfl
    | succ k ih =>
      intro hk
      rw [edgesTP, edgesTo]
      unfold rowsP at ih ⊢
      rw [List.map_append, ih (by omega)]
      congr 1
      have hkl : k < g.length := hk
      have e : g.getD k [] = natsI (bitsN ((netsL g).getD k 0)) := by
        rw [show g.getD k [] = g[k] by simp [hkl], row_bits hg hkl, bits_nats]
      rw [e]
      unfold edgeRow natsI
      rw [List.filter_map, List.map_map, List.map_map]
      have e2 : ((fun v : Int => decide ((k : Int) < v)) ∘ fun n : Nat => (n : Int)) = fun v : Nat => decide (k < v) := by
        funext v
        simp only [Function.comp]
        rw [decide_eq_decide]; omega
      rw [e2]
      rfl
  exact key g.length (Nat.le_refl _)
/-- What the searches find. -/
noncomputable def leafS (g : List (List Int)) : List (List (List Nat)) := srchS (edgesP g) (List.replicate g.length [])
noncomputable def leafI (g : List (List Int)) : List (List (List Nat)) := srchI (growR (netsL g) 0) (List.replicate g.length [])
noncomputable def waysS (g : List (List Int)) : Int × List (List Nat) := (leafS g).foldl stepW (0, [])
noncomputable def manyP (g : List (List Int)) : Int := if smallB g = true then ((leafS g).length : Int) else -1
theorem small_is {g : List (List Int)} (h : smallB g = true) : GOk g ∧ g.length ≤ 8 := by
  unfold smallB at h
  rw [Bool.and_eq_true, decide_eq_true_eq] at h
  exact ⟨gokB_iff.1 h.1, h.2⟩
theorem waysS_many {g : List (List Int)} (hg : GOk g) (h3 : 3 ≤ g.length) (hm : 3 * g.length < (edgesP g).length + 6) : waysS g = (0, []) := by
  unfold waysS leafS
  rw [srchS_many (edgesP_ok hg).1 h3 hm]; rfl
set_option maxHeartbeats 2000000 in
theorem l26SmallE_any {S : Nat → Prop} {v : Value} {g : List (List Int)} {w : World} (hv : SlR S w v g) : Calls Tryz.prog 44 #[.agg #[v]] w fun e w' => e = .returned (.bool (smallB g)) ∧ Below w.heap.size w w' := by
  have hb : Below w.heap.size w (w.alloc (.cells #[v] 26)) := (Below.refl _ _).alloc (Nat.le_refl _) _
  obtain ⟨va, vc, rfl⟩ := hv.slice
  have hgo := specGraphOk_any _ _ _ (hv.below hb (Nat.le_refl _))
  have hlen := hv.len
  by_cases hg : gokB g = true
  · have HE := Lib.hid (show smallB g = decide (g.length ≤ 8) by simp [smallB, hg])
    rw [hg] at hgo
    go_enter Tryz.func44, Tryz.ntmps44
    go_wp2_with fail
    refine hgo.mono ?_
    rintro e w1 ⟨rfl, hb1⟩
    have hcell : w1.cell? ⟨w.heap.size, 0, none⟩ = some (.slice va g.length vc) := (hb1.cell (p := ⟨w.heap.size, 0, none⟩) (by simp)).trans (by simp [go_sem])
    go_wp2
    go_ret
    exact ⟨ret_bool (by rw [HE.out]; first | rfl | (simp; omega) | (rw [decide_eq_decide]; omega)), hb.trans (hb1.mono hb.size)⟩
  · have hg' : gokB g = false := by simpa using hg
    have HE := Lib.hid (show smallB g = false by simp [smallB, hg'])
    rw [hg'] at hgo
    clear hg hg'
    go_enter Tryz.func44, Tryz.ntmps44
    go_wp2_with fail
    refine hgo.mono ?_
    rintro e w1 ⟨rfl, hb1⟩
    go_wp2
    go_ret
    exact ⟨ret_bool HE.out.symm, hb.trans (hb1.mono hb.size)⟩
theorem wpList_makeN {P : Program} (w : World) {ops : Array Oper} {rest : List Oper} {o : Oper} {a : Act} {Q : Exit → Act → World → Prop}
    (hg : o.guard = none) (l c : Operand) (t e : TypeId) (hop : o.op = Op.makeSlice t l c) (hE : Elem P t e 1 24 (.slice none 0 0)) (kl kc : IntKind) (n : Nat) (hl : a.eval l = .int kl (n : Int)) (hc : a.eval c = .int kc (n : Int)) (hn : n ≤ 1048576)
    (hK : ∀ w', SlR (fun x => w.heap.size ≤ x ∧ x < w'.heap.size) w' (.slice (some ⟨w.heap.size, 0, none⟩) n n) ((List.replicate n ([] : List Nat)).map natsI) → KeptBut w w' none → wpList P ops Q rest (a.put o.dst (.slice (some ⟨w.heap.size, 0, none⟩) n n)) w') :
    wpList P ops Q (o :: rest) a w := by
  obtain ⟨i, hi, hz⟩ := Option.map_eq_some_iff.1 hE.hi
  simp only [Prod.mk.injEq] at hz
  refine wpList_make_full w hg l c t hop w.heap.size e i (.slice none 0 0) 1 hE.ht hi hz.1 hz.2.1 kl kc _ _ n hl hc rfl rfl (by rw [hz.2.2]; omega) (by unfold maxLen; omega) (Nat.le_refl _) (fun w' h1 h2 => hK w' ?_ (.of_grown h2))
  have e7 : (madeCells (Value.slice none 0 0).cells (n * 1)).toList = List.replicate n (Value.slice none 0 0) := by
    rw [Nat.mul_one, show (Value.slice none 0 0).cells = #[Value.slice none 0 0] from rfl, toList_madeCells_one]
  rw [e7] at h1
  refine RowsTo.rows (vs := List.replicate n (Value.slice none 0 0)) (B := w.heap.size) (E := e) (n := n) ⟨by simp, fun i h3 h4 => ?_⟩ (by simp) (fun b hb => Own.lt (show Own w' w.heap.size _ 1 _ n _ from h1) b hb) h1 (by omega)
  simp only [List.getElem_replicate, List.getElem_map]
  exact ⟨none, 0, 0, 0, rfl, by simp [natsI], fun h => by simp [natsI] at h, fun j hj => by simp [natsI] at hj⟩
set_option maxRecDepth 100000 in
set_option maxHeartbeats 8000000 in
theorem l22All_any {S : Nat → Prop} {v : Value} {g : List (List Int)} {w : World} (hg : GOk g) (h8 : g.length ≤ 8) (hv : SlR S w v g) :
    Calls Tryz.prog 45 #[.agg #[v]] w fun e w' => ∃ bv, e = .returned (.agg #[.int .i64 (waysS g).1, bv]) ∧ RowO (fun x => w.heap.size ≤ x ∧ x < w'.heap.size) w' bv ((waysS g).2.map natsI) ∧ Below w.heap.size w w' := by
  have hq0 : Below w.heap.size w ((w.alloc (.cells #[v] 26)).alloc (.cells #[.int .i64 0, .slice none 0 0] 76)) := ((Below.refl _ _).alloc (Nat.le_refl _) _).alloc (by simp) _
  have hres0 := own2_new (w.alloc (.cells #[v] 26)) w.heap.size 76 (.int .i64 0) (.slice none 0 0) (by simp)
  rw [show (w.alloc (.cells #[v] 26)).heap.size = w.heap.size + 1 by simp] at hres0
  have hed := l1Edges_any hg (hv.below hq0 (Nat.le_refl _))
  obtain ⟨va, vc, rfl⟩ := hv.slice
  have c0 : ((w.alloc (.cells #[.slice va g.length vc] 26)).alloc (.cells #[.int .i64 0, .slice none 0 0] 76)).cell? ⟨w.heap.size, 0, none⟩ = some (.slice va g.length vc) := by simp [go_sem]
  have hEL := (edgesL g).length
  have HSM := Lib.hid (edges_small hg)
  have HRW := Lib.hid (edgesP_rows hg)
  have hle := (edgesP_ok hg).1
  have HLE := Lib.hid hle
  have hel : (edgesL g).length = (edgesP g).length := by rw [← edgesP_rows hg, rowsP_len]
  have HMA := Lib.hid (fun (h3 : 3 ≤ g.length) (hm : 3 * g.length < (edgesP g).length + 6) => waysS_many hg h3 hm)
  have HSE := Lib.hid (search_any hg.lo h8 (edgesP g) [] (List.replicate g.length []) 0 [])
  have hH0 := hasE_start (n := g.length) hg.hi
  have hbe : (edgesP g).length ≤ 1048576 := by have := (edges_small hg).1; rw [hel] at this; omega
  have hlo := hg.lo
  have hEF : ∀ W : World, w.heap.size + 2 ≤ W.heap.size → Below w.heap.size w W → Own W w.heap.size 76 2 (.slice (some ⟨w.heap.size + 1, 0, none⟩) 1 1) 1 [.int .i64 0, .slice none 0 0] → ∀ (m : Int) (ba : Option Addr) (bn bc : Nat) (b : List (List Nat)), RowO (fun x => w.heap.size + 2 ≤ x ∧ x < W.heap.size) W (.slice ba bn bc) (b.map natsI) →
      RowO (fun x => w.heap.size ≤ x ∧ x < ((W.setCell ⟨w.heap.size + 1, 0, none⟩ (.int .i64 m)).setCell ⟨w.heap.size + 1, 1, none⟩ (.slice ba bn bc)).heap.size) ((W.setCell ⟨w.heap.size + 1, 0, none⟩ (.int .i64 m)).setCell ⟨w.heap.size + 1, 1, none⟩ (.slice ba bn bc)) (.slice ba bn bc) (b.map natsI) ∧
      Below w.heap.size w ((W.setCell ⟨w.heap.size + 1, 0, none⟩ (.int .i64 m)).setCell ⟨w.heap.size + 1, 1, none⟩ (.slice ba bn bc)) ∧
      ((W.setCell ⟨w.heap.size + 1, 0, none⟩ (.int .i64 m)).setCell ⟨w.heap.size + 1, 1, none⟩ (.slice ba bn bc)).cell? ⟨w.heap.size + 1, 0, none⟩ = some (.int .i64 m) ∧
      ((W.setCell ⟨w.heap.size + 1, 0, none⟩ (.int .i64 m)).setCell ⟨w.heap.size + 1, 1, none⟩ (.slice ba bn bc)).cell? ⟨w.heap.size + 1, 1, none⟩ = some (.slice ba bn bc) := fun W hz hq hre m ba bn bc b hb => by
    have hk2 := (KeptBut.set W (w.heap.size + 1) 0 (.int .i64 m)).trans (KeptBut.set (W.setCell ⟨w.heap.size + 1, 0, none⟩ (.int .i64 m)) (w.heap.size + 1) 1 (.slice ba bn bc))
    obtain ⟨c0, c1, -⟩ := own2_cell (own2_set hre (.int .i64 m) (.slice ba bn bc))
    exact ⟨(hb.keep fun x hx => hk2.2.2.2.2 x hx.2 (fun e => by have e2 : x = w.heap.size + 1 := Option.some.inj e; have := hx.1; omega)).weak fun x hx => ⟨by have := hx.1; omega, by simpa using hx.2⟩, hk2.below hq hq.size (fun x hx => by have e : w.heap.size + 1 = x := Option.some.inj hx; omega), c0, c1⟩
  have HEF := Lib.hid hEF
  clear hEL hEF hle hg
  go_enter Tryz.func45, Tryz.ntmps45
  go_wp2_with fail
  refine hed.mono ?_
  rintro e w1 ⟨u1, rfl, hu1, hb1⟩
  have hq1 := hq0.trans (hb1.mono hq0.size)
  have hres := hres0.below hb1 (Nat.le_refl _)
  have hz1 : w.heap.size + 2 ≤ w1.heap.size := by have := (hres.lt (w.heap.size + 1) rfl).2; omega
  have hur := hu1.rows HSM.out
  rw [← HRW.out] at hur
  obtain ⟨ua, uc, rfl⟩ := hu1.isSlice
  rw [hel] at *
  obtain ⟨d0, d1, f0, f1, -, -⟩ := own2_cell hres
  clear hed hq0 hres0 hb1 hu1 c0 hel
  have hsearch : ∀ W : World, Below w1.heap.size w1 W → ∀ tv : Value, SlR (fun x => x < W.heap.size) W tv ((List.replicate g.length ([] : List Nat)).map natsI) →
      Calls Tryz.prog 86 #[.slice ua (edgesP g).length uc, tv, .agg #[.int .i64 0, .slice none 0 0]] W fun e w' => ∃ bv, e = .returned (.agg #[.int .i64 (waysS g).1, bv]) ∧ RowO (fun x => w1.heap.size ≤ x ∧ x < w'.heap.size) w' bv ((waysS g).2.map natsI) ∧ Below W.heap.size W w' := fun W hb tv htv => by
    refine (HSE.out _ _ (fun _ => False) _ _ (.slice none 0 0) W (by simpa using HLE.out) hH0 (.inl rfl) (hur.below hb (Nat.le_refl _)) htv (RowO.nil _ _) (fun x hx => hx.elim)).mono ?_
    rintro e w' ⟨bv, h1, h2, h3⟩
    exact ⟨bv, h1, h2.weak fun x hx => ⟨Nat.le_trans hb.size (hx.1.resolve_left fun h => h), hx.2⟩, h3⟩
  have HS := Lib.hid hsearch
  have hEI : ((edgesP g).length : Int) = ((edgesP g).length : Nat) := rfl
  generalize hE : (edgesP g).length = E at *
  clear hsearch hEI hE HSM HRW HLE HSE hH0 hur
  by_cases h3 : 3 ≤ g.length
  case neg =>
    have hd3 : decide ((3 : Int) ≤ (g.length : Int)) = false := decide_eq_false (by omega)
    have hd4 : decide (3 ≤ g.length) = false := decide_eq_false (by omega)
    have hd5 : ¬ (3 : Int) ≤ (g.length : Int) := by omega
    clear HMA
    go_wp2_with (at_make; refine wpList_makeN _ rfl _ _ _ 36 rfl elRows .i64 .i64 g.length rfl rfl (by omega) ?_; intro w2 ht2 hk2; refine hold_in ?_)
    unfold HoldP
    have hb2 : Below w1.heap.size w1 w2 := hk2.below (Below.refl _ _) (Nat.le_refl _) (fun b hb => by cases hb)
    have hca := HS.out w2 hb2 _ (ht2.weak fun x hx => hx.2)
    have hq2 := hq1.trans (hb2.mono hq1.size)
    have hres2 := hres.below hb2 (Nat.le_refl _)
    have hz2 := hb2.size
    clear ht2 hk2 HS
    go_wp2_with fail
    refine hca.mono ?_
    rintro e w3 ⟨bv, rfl, hbv, hb3⟩
    have hq3 := hq2.trans (hb3.mono hq2.size)
    have hres3 := hres2.below hb3 (Nat.le_refl _)
    have hz3 := hb3.size
    obtain ⟨ba, bc, rfl⟩ := hbv.slice
    rw [List.length_map] at hbv
    obtain ⟨k1, k2, k3, k4⟩ := HEF.out w3 (by omega) hq3 hres3 (waysS g).1 ba (waysS g).2.length bc (waysS g).2 (hbv.weak fun x hx => ⟨by have := hx.1; omega, hx.2⟩)
    obtain ⟨g0, g1, j0, j1, -, -⟩ := own2_cell hres3
    have HWE := Lib.hid (show waysS g = ((waysS g).1, (waysS g).2) from rfl)
    generalize hwm : (waysS g).1 = m at *
    generalize hwb : (waysS g).2 = b at *
    clear hwm hwb
    clear hca HEF hbv hb3 hb2 hres2 hres3 hres hz3 hz2
    go_wp2
    refine bodyPost_ret (v := .agg #[.int .i64 m, .slice ba b.length bc]) (by simp [results, Tryz.results45, go_sem, k3, k4]) rfl ?_
    rw [HWE.out]
    exact ⟨_, rfl, k1, k2⟩
  have hd3 : decide ((3 : Int) ≤ (g.length : Int)) = true := decide_eq_true (by omega)
  have hd5 : (3 : Int) ≤ (g.length : Int) := by omega
  by_cases hm : 3 * g.length < E + 6
  case neg =>
    have hm1 : ¬ (3 * (g.length : Int) - 6 < (E : Int)) := by omega
    have hm2 : decide (3 * (g.length : Int) - 6 < (E : Int)) = false := decide_eq_false hm1
    clear HMA
    go_wp2_with (at_make; refine wpList_makeN _ rfl _ _ _ 36 rfl elRows .i64 .i64 g.length rfl rfl (by omega) ?_; intro w2 ht2 hk2; refine hold_in ?_)
    unfold HoldP
    have hb2 : Below w1.heap.size w1 w2 := hk2.below (Below.refl _ _) (Nat.le_refl _) (fun b hb => by cases hb)
    have hca := HS.out w2 hb2 _ (ht2.weak fun x hx => hx.2)
    have hq2 := hq1.trans (hb2.mono hq1.size)
    have hres2 := hres.below hb2 (Nat.le_refl _)
    have hz2 := hb2.size
    clear ht2 hk2 HS
    go_wp2_with fail
    refine hca.mono ?_
    rintro e w3 ⟨bv, rfl, hbv, hb3⟩
    have hq3 := hq2.trans (hb3.mono hq2.size)
    have hres3 := hres2.below hb3 (Nat.le_refl _)
    have hz3 := hb3.size
    obtain ⟨ba, bc, rfl⟩ := hbv.slice
    rw [List.length_map] at hbv
    obtain ⟨k1, k2, k3, k4⟩ := HEF.out w3 (by omega) hq3 hres3 (waysS g).1 ba (waysS g).2.length bc (waysS g).2 (hbv.weak fun x hx => ⟨by have := hx.1; omega, hx.2⟩)
    obtain ⟨g0, g1, j0, j1, -, -⟩ := own2_cell hres3
    have HWE := Lib.hid (show waysS g = ((waysS g).1, (waysS g).2) from rfl)
    generalize hwm : (waysS g).1 = m at *
    generalize hwb : (waysS g).2 = b at *
    clear hwm hwb
    clear hca HEF hbv hb3 hb2 hres2 hres3 hres hz3 hz2
    go_wp2
    refine bodyPost_ret (v := .agg #[.int .i64 m, .slice ba b.length bc]) (by simp [results, Tryz.results45, go_sem, k3, k4]) rfl ?_
    rw [HWE.out]
    exact ⟨_, rfl, k1, k2⟩
  have HW := Lib.hid (HMA.out h3 hm)
  have hm1 : 3 * (g.length : Int) - 6 < (E : Int) := by omega
  have hm2 : decide (3 * (g.length : Int) - 6 < (E : Int)) = true := decide_eq_true hm1
  obtain ⟨k1, k2, k3, k4⟩ := HEF.out w1 hz1 hq1 hres 0 none 0 0 [] (RowO.nil _ _)
  clear HMA HEF HS hres
  go_wp2
  refine bodyPost_ret (v := .agg #[.int .i64 0, .slice none 0 0]) (by simp [results, Tryz.results45, go_sem, k3, k4]) rfl ?_
  rw [HW.out]
  exact ⟨_, rfl, k1, k2⟩
