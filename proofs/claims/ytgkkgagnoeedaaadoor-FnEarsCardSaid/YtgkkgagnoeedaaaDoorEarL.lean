/- The law of ears. -/
import Derived.Test.YtgkkgagnoeedaaaDoorEarI
import Derived.Test.YtgkkgagnoeedaaaDoorEar7
import Derived.Test.YtgkkgagnoeedaaaDoorEar3
import Derived.Test.YtgkkgagnoeedaaaDoorDice
import Derived.Test.YtgkkgagnoeedaaaDoorBig
namespace Go.Proofs.YtgkkgagnoeedaaaDoor
open Go.RowKit
/-- Where there is an ear there is a least one. -/
theorem least_ear {g : List (List Int)} (hg : GOk g) {m : Nat} {U : List NP} (hm : m < 2 ^ g.length) (h : ∃ q, EarG g m U q) : ∃ q, LeastG (EarG g m U) q := by
  apply Classical.byContradiction
  intro hno
  have hF : ∀ q, EarG g m U q → q.getD 0 0 ∈ fromN m := fun q hq => (ear_from hg hm hq).2.2
  have key : ∀ d, NoF (EarG g m U) (fromN m) (2 + d) 0 := fun d => by
    induction d with
    | zero => exact NoF.start fun q hq => ⟨(ear_from hg hm hq).1, hF q hq⟩
    | succ d ih =>
      have hk : ∀ k, k ≤ (fromN m).length → NoF (EarG g m U) (fromN m) (2 + d) k := fun k => by
        induction k with
        | zero => exact fun _ => ih
        | succ k ihk =>
          intro hk
          have h1 := ihk (by omega)
          cases hd : dfsF (candS g m U (2 + d)) (finS g m U) (2 + d - 1) [(fromN m)[k]] with
          | some q => exact (hno ⟨q, foundS hg (by omega) (by omega) h1 hd⟩).elim
          | none => exact h1.next (by omega) (nothingS hg (by omega) hd)
      exact (hk _ (Nat.le_refl _)).long hF
  obtain ⟨q, hq⟩ := h
  have h1 := (ear_from hg hm hq).2.1
  rcases key g.length q hq with h2 | ⟨h2, -⟩ <;> omega
theorem ears_run {g : List (List Int)} (h : TwoCon g) : ∀ (k m c : Nat) (U : List NP), UseI g m U c → endsN g < U.length + k → ∃ m' U', earsF g ((runE g k m U).map natsI) m U = some (m', U') ∧ U'.length = endsN g ∧ UseI g m' U' (c + (runE g k m U).length)
  | 0, m, c, U, hI, hk => by have := hI.inv.le h.gok; omega
  | k + 1, m, c, U, hI, hk => by
    by_cases hl : U.length = endsN g
    · rw [run_end hl]
      exact ⟨m, U, rfl, hl, hI⟩
    · obtain ⟨q, hq⟩ := least_ear h.gok hI.inv.mask (hI.ex h hl)
      have hn := (hI.next h.gok hq.1).1
      have hb := hq.1.1
      have hlen := (hI.inv.next h.gok hb).2.2
      rw [ear_nat] at hlen
      obtain ⟨m', U', h1, h2, h3⟩ := ears_run h k _ _ _ hn (by omega)
      rw [run_step hl hq]
      have hmz : (m == 0) = decide (m = 0) := by rw [Bool.eq_iff_iff, beq_iff_eq, decide_eq_true_eq]
      refine ⟨m', U', ?_, h2, ?_⟩
      · rw [List.map_cons, earsF, hmz, if_pos hb, ear_nat]
        exact h1
      · rw [List.length_cons, show c + ((runE g k (m ||| maskL (natsI q)) (useU U (stepsN q (decide (m = 0))))).length + 1) = c + 1 + (runE g k (m ||| maskL (natsI q)) (useU U (stepsN q (decide (m = 0))))).length by omega]
        exact h3
theorem earsF_snoc {g : List (List Int)} {e : List Int} : ∀ (a : List (List Int)) (m : Nat) (U : List NP) (r : Nat × List NP), earsF g (a ++ [e]) m U = some r → ∃ r1 : Nat × List NP, earsF g a m U = some r1 ∧ earB g e r1.1 r1.2 (r1.1 == 0) = true ∧ r = (r1.1 ||| maskL e, useU r1.2 (stepsN (natsOf e) (r1.1 == 0)))
  | [], m, U, r, h => by
    rw [List.nil_append, earsF] at h
    by_cases hb : earB g e m U (m == 0) = true
    · rw [if_pos hb, earsF] at h
      exact ⟨(m, U), rfl, hb, (Option.some.inj h).symm⟩
    · rw [if_neg hb] at h; cases h
  | x :: a, m, U, r, h => by
    rw [List.cons_append, earsF] at h
    by_cases hb : earB g x m U (m == 0) = true
    · rw [if_pos hb] at h
      obtain ⟨r1, h1, h2, h3⟩ := earsF_snoc a _ _ r h
      exact ⟨r1, by rw [earsF, if_pos hb]; exact h1, h2, h3⟩
    · rw [if_neg hb] at h; cases h
theorem mask_all {g : List (List Int)} (h : TwoCon g) {m c : Nat} {U : List NP} (hI : UseI g m U c) (hl : U.length = endsN g) : m = firstN g.length := by
  have hg := h.gok
  have hf := (hI.inv.full hg).1 hl
  apply nat_ext
  intro i
  rw [Bool.eq_iff_iff, testBit_firstN, decide_eq_true_eq]
  refine ⟨fun hi => bit_lt_of hI.inv.mask hi, fun hi => ?_⟩
  have h3 := h.three
  have hnb : ∃ y, ((netsL g).getD i 0).testBit y = true := by
    apply Classical.byContradiction
    intro hno
    obtain ⟨z, hz, hzi⟩ : ∃ z, z < g.length ∧ z ≠ i := by
      by_cases e : i = 0
      · exact ⟨1, by omega, by omega⟩
      · exact ⟨0, by omega, fun e2 => e e2.symm⟩
    have hr := h.all i z hi hz
    have hf32 : firstN g.length < 4294967296 := by have := firstN_lt hg.hi; omega
    have hcl : ClosedN (netsL g) (firstN g.length) (bit i) := fun u hu v _ hb => by
      rw [testBit_bit, decide_eq_true_eq] at hu
      subst hu
      exact absurd ⟨v, hb⟩ hno
    have := reach_least hf32 (by have := hg.hi; omega) hcl (by rw [testBit_bit]; simp) hr
    rw [testBit_bit, decide_eq_true_eq] at this
    exact hzi this.symm
  obtain ⟨y, hy⟩ := hnb
  exact (hI.ends _ (hf (i, y) ((mem_allP hg).2 ⟨hi, (nets_bitE hg hi).1 hy⟩))).1
/-- What the law asks of the ears. -/
theorem ears_facts {g : List (List Int)} (h : twoB g = true) : earsOkB g ((earsL g).map natsI) = true ∧ ((earsL g).length : Int) = ((endsN g / 2 : Nat) : Int) - (g.length : Int) + 1 ∧ 1 ≤ (earsL g).length ∧ earsOkB g (((earsL g).map natsI).take ((earsL g).length - 1)) = false := by
  have hT := two_of h
  have hg := hT.gok
  have hen := endsN_le hg
  have hgb : gokB g = true := gokB_iff.2 hg
  obtain ⟨m, U, h1, h2, h3⟩ := ears_run hT 600 0 0 [] (UseI.start g) (by simp; omega)
  have hE : earsL g = runE g 600 0 [] := by rw [earsL, if_pos h]
  rw [← hE] at h1 h3
  rw [Nat.zero_add] at h3
  have hm := mask_all hT h3 h2
  have hmne : m ≠ 0 := fun e => by
    have h4 := (h3.none_ e).1
    have h5 : endsN g = 0 := by rw [← h2, h4]; rfl
    obtain ⟨q, hq⟩ := first_ear hT
    exact (UseI.start g).full hg (by rw [h5]; rfl) q hq
  have hcnt := h3.count hmne
  have hpop : popN m = g.length := by
    rw [hm]
    have := bits_firstN hg.hi
    rw [show bitsI (firstN g.length) = natsI (bitsN (firstN g.length)) by simp [bitsI, natsI], natsI_len] at this
    exact this
  have h1len : 1 ≤ (earsL g).length := by
    apply Classical.byContradiction
    intro hc
    have h0 : earsL g = [] := List.eq_nil_of_length_eq_zero (by omega)
    rw [h0, List.map_nil, earsF] at h1
    have := Option.some.inj h1
    exact hmne (congrArg Prod.fst this).symm
  have hok : endB g m U = true := by
    unfold endB
    rw [decide_eq_true hm, decide_eq_true h2]; rfl
  refine ⟨?_, by omega, h1len, ?_⟩
  · rw [earsOkB, hgb, h1, decide_eq_true (by rw [List.length_map]; omega)]
    simpa using hok
  · have hsp : (earsL g).map natsI = ((earsL g).map natsI).take ((earsL g).length - 1) ++ [((earsL g).map natsI)[(earsL g).length - 1]'(by rw [List.length_map]; omega)] := by
      have := List.take_succ_eq_append_getElem (l := (earsL g).map natsI) (i := (earsL g).length - 1) (by rw [List.length_map]; omega)
      rw [← this, List.take_of_length_le (by rw [List.length_map]; omega)]
    rw [hsp] at h1
    obtain ⟨⟨m1, U1⟩, a1, a2, a3⟩ := earsF_snoc _ _ _ _ h1
    have hI1 := (earsF_many hg (EInv.start g) a1).1
    have hlt := (hI1.next hg a2).2.2
    have e2 := congrArg Prod.snd a3
    simp only at e2 hlt
    rw [← e2] at hlt
    rw [earsOkB, a1]
    have : endB g m1 U1 = false := by
      unfold endB
      rw [decide_eq_false (show ¬ U1.length = endsN g by omega), Bool.and_false]
    show (gokB g && decide _ && endB g m1 U1) = false
    rw [this, Bool.and_false]
theorem run_smallL {g : List (List Int)} : ∀ (k m : Nat) (U : List NP), (runE g k m U).length ≤ k ∧ ∀ q ∈ runE g k m U, q.length ≤ g.length
  | 0, _, _ => by simp [runE]
  | k + 1, m, U => by
    rw [runE]
    split
    · simp
    · obtain ⟨h1, h2⟩ := run_smallL (g := g) k (m ||| maskL (natsI (pickG (EarG g m U)))) (useU U (stepsN (pickG (EarG g m U)) (decide (m = 0))))
      refine ⟨by simp; omega, fun q hq => ?_⟩
      rcases List.mem_cons.1 hq with rfl | hq
      · by_cases he : ∃ q, LeastG (EarG g m U) q
        · obtain ⟨q, hq⟩ := he
          rw [pick_some hq]
          obtain ⟨-, h3, h4, -⟩ := earB_iff.1 hq.1.1
          have := nodup_lenA h4 (E := List.range g.length) (fun x hx => List.mem_range.2 (h3 x hx))
          simpa using this
        · have : pickG (EarG g m U) = [] := by unfold pickG; rw [dif_neg he]
          rw [this]; simp
      · exact h2 q hq
theorem ears_smallL (g : List (List Int)) : SmallR ((earsL g).map natsI) 1048576 := by
  unfold earsL
  split
  case isTrue h =>
    have hg := (two_of h).gok.hi
    obtain ⟨h1, h2⟩ := run_smallL (g := g) 600 0 []
    refine ⟨by rw [List.length_map]; omega, fun i hi _ => ?_⟩
    have hm : (runE g 600 0 [])[i]'(by simpa using hi) ∈ runE g 600 0 [] := List.getElem_mem _
    have := h2 _ hm
    rw [List.getElem_map, natsI_len]
    omega
  case isFalse h => exact ⟨by simp, fun i hi _ => by simp at hi⟩
theorem SlR.takeL {S : Nat → Prop} {w : World} {a : Option Addr} {n c : Nat} {g : List (List Int)} (h : SlR S w (.slice a n c) g) (m : Nat) (hm : m ≤ g.length) : SlR S w (.slice a m c) (g.take m) := by
  obtain ⟨a', b, off, cap, f, he, hl, ha, hc⟩ := h
  simp only [Value.slice.injEq] at he
  obtain ⟨rfl, rfl, rfl⟩ := he
  have hlen : (g.take m).length = m := by rw [List.length_take]; omega
  refine ⟨a, b, off, c, f, by rw [hlen], ⟨by omega, hl.2⟩, fun h0 => ha (by omega), fun i hi => ?_⟩
  rw [hlen] at hi
  obtain ⟨h1, h2⟩ := hc i (by omega)
  exact ⟨h1, by rw [List.getElem_take]; exact h2⟩
set_option maxHeartbeats 1000000 in
theorem w9Edges_any {S : Nat → Prop} {v : Value} {g : List (List Int)} {w : World} (hg : GOk g) (hv : SlR S w v g) :
    Calls Tryd.prog 31 #[.agg #[v]] w fun e w' => e = .returned (.int .i64 ((endsN g / 2 : Nat) : Int)) ∧ Below w.heap.size w w' := by
  have h16 := hg.hi
  have HG := Lib.hid hg
  obtain ⟨a, b, off, cap, f, rfl, hl, ha, hc0⟩ := hv
  have hq0 : Below w.heap.size w (w.alloc (.cells #[.slice a g.length cap] 27)) := (Below.refl _ _).alloc (Nat.le_refl _) _
  go_enter Tryd.func31, Tryd.ntmps31
  go_wp2
  go_loopw [3, 4] (fun m i wr => ∃ k : Nat, k ≤ g.length ∧ i = .int .i64 k ∧ m = .int .i64 (endsTo g k : Int) ∧ Below w.heap.size w wr ∧ wr.cell? ⟨w.heap.size, 0, none⟩ = some (.slice a g.length cap)) (fun _ i _ => g.length - (intOf i).toNat)
  case atStart => exact ⟨0, Nat.zero_le _, rfl, by simp [endsTo], hq0, by simp [go_sem]⟩
  case round =>
    clear hq0
    obtain ⟨k, hk, rfl, rfl, hq, cg⟩ := hrel
    obtain ⟨wi, rfl⟩ : ∃ wx : World, wx = wr := ⟨_, rfl⟩
    by_cases hlt : k < g.length
    case neg =>
      obtain rfl : k = g.length := by omega
      rw [endsTo_all]
      have hle := endsN_le HG.out
      obtain ⟨t, HT⟩ : ∃ t, RowKit.Hid (endsN g = t) := ⟨_, Lib.hid rfl⟩
      rw [HT.out] at hle ⊢
      have hqs := (show Int.tdiv (t : Int) 2 = ((t / 2 : Nat) : Int) from rfl)
      have hws : IntKind.i64.wrap ((t / 2 : Nat) : Int) = ((t / 2 : Nat) : Int) := IntWalk.i64_in _ (by omega)
      go_wp2
      go_ret
      exact ⟨ret_int (by rw [HT.out]; omega), hq⟩
    obtain ⟨hcr0, hrow⟩ := hc0 k hlt
    obtain ⟨rfl, -⟩ := ha (by omega)
    have hcr := (hq.cell (p := ⟨b, off + k, none⟩) (cell_lt hcr0)).trans hcr0
    obtain ⟨ra, rc, hre⟩ := hrow.slice
    rw [hre] at hcr
    have HST := Lib.hid (endsTo_succ hlt)
    have hle := endsTo_le HG.out k (by omega)
    have hrl := HG.out.rowlenS hlt
    clear hcr0 hrow hre
    generalize endsTo g k = t at *
    generalize g[k].length = rl at *
    have hw1 : IntKind.i64.wrap ((t : Int) + (rl : Int)) = (t : Int) + (rl : Int) := IntWalk.i64_in _ (by omega)
    go_wp2
    go_roundw
    case rel => exact ⟨k + 1, by omega, by go_num, by rw [HST.out]; go_num, hq, cg⟩
    case measure => simp [intOf]; omega
set_option maxRecDepth 100000 in
set_option maxHeartbeats 8000000 in
theorem lawEars_any {S : Nat → Prop} (v : Value) (bs : List Int) (w : World) (ht : Tab w) (hv0 : SlI S w .u8 v bs) (hr : ∀ x ∈ bs, 0 ≤ x ∧ x < 256) :
    Calls Tryd.prog 5 #[v] w fun e w' => e = .returned (.bool true) ∧ Below w.heap.size w w' := by
  have hv := hv0.lowS
  have hbg := big_any hv
  by_cases hl : bs.length ≤ 4096
  case neg =>
    rw [decide_eq_true (show 4096 < bs.length by omega)] at hbg
    go_enter Tryd.func5, Tryd.ntmps5
    go_wp2_with (go_at_call 24; refine hbg.mono ?_; rintro e w' ⟨rfl, rfl⟩)
    go_ret
    exact ⟨rfl, Below.refl _ _⟩
  rw [decide_eq_false (show ¬ 4096 < bs.length by omega)] at hbg
  have hro := roll_any (sd := 1020) hv hr (fun b hb => hb) hl
  go_enter Tryd.func5, Tryd.ntmps5
  go_wp2_with (go_at_call 24; refine hbg.mono ?_; rintro e w' ⟨rfl, rfl⟩)
  refine hro.mono ?_
  rintro e w1 ⟨rfl, hD, hb1⟩
  have hw9 := w9Graph_any (most := 6) hD hl (by omega) (by omega)
  have hs1 := hb1.size
  have hd1 := hD.lt
  clear hro hbg
  go_wp2_with fail
  refine hw9.mono ?_
  rintro e w2 ⟨u, g, rfl, hR, hg, hg6, hD2, hk2⟩
  have hb2 : Below w.heap.size w w2 := hk2.below hb1 (by omega) (fun b hb => by simp at hb; omega)
  have hgv := hR.rows (gok_small hg)
  clear hw9 hD hD2 hk2
  obtain ⟨ua, uc, rfl⟩ := hgv.slice
  have hb3 : Below w2.heap.size w2 (w2.alloc (.cells #[.slice ua g.length uc] 27)) := (Below.refl _ _).alloc (Nat.le_refl _) _
  have hq3 := hb2.trans (hb3.mono hb2.size)
  have hgv3 := hgv.below hb3 (Nat.le_refl _)
  have hea := implEarsOf_any (ht.below hq3 (Nat.le_refl _)) hgv3
  clear hR
  go_wp2_with fail
  refine hea.mono ?_
  rintro e w4 ⟨x, rfl, hx, hb4⟩
  have hq4 := hq3.trans (hb4.mono hq3.size)
  have hgv4 := hgv3.below hb4 (Nat.le_refl _)
  have c4 : w4.cell? ⟨w2.heap.size, 0, none⟩ = some (.slice ua g.length uc) := (hb4.cell (p := ⟨w2.heap.size, 0, none⟩) (by simp)).trans (by simp [go_sem])
  have hts := specTwoConnectedIn_any _ _ _ hgv4
  have hF := fun h => ears_facts (g := g) h
  have hE0 : twoB g = false → earsL g = [] := fun h => by rw [earsL, if_neg (by rw [h]; simp)]
  have hlm : ((earsL g).map natsI).length = (earsL g).length := List.length_map ..
  obtain ⟨xa, xc, rfl⟩ := hx.isSlice
  rw [hlm] at hx ⊢
  have HLM := Lib.hid hlm
  have HF := Lib.hid hF
  clear hea hb3 hgv hgv3 hb4 hq3 hF hlm
  cases h2 : twoB g with
  | false =>
    rw [h2] at hts
    have hE := hE0 h2
    rw [hE] at hx ⊢
    clear HF hE0 hE HLM
    go_wp2_with fail
    refine hts.mono ?_
    rintro e w5 ⟨rfl, hb5⟩
    have hq5 := hq4.trans (hb5.mono hq4.size)
    have c5 := (hb5.cell (cell_lt c4)).trans c4
    have hti := implTwoConnectedIn_any _ _ _ (ht.below hq5 (Nat.le_refl _)) (hgv4.below hb5 (Nat.le_refl _))
    rw [h2] at hti
    clear h2
    go_wp2_with fail
    refine hti.mono ?_
    rintro e w6 ⟨rfl, hb6⟩
    go_wp2
    go_ret
    exact ⟨rfl, hq5.trans (hb6.mono hq5.size)⟩
  | true =>
    rw [h2] at hts
    obtain ⟨f1, f2, f3, f4⟩ := HF.out h2
    have F1 := Lib.hid f1
    have F2 := Lib.hid f2
    have F4 := Lib.hid f4
    clear HF hE0 f1 f2 f4
    go_wp2_with fail
    refine hts.mono ?_
    rintro e w5 ⟨rfl, hb5⟩
    have hq5 := hq4.trans (hb5.mono hq4.size)
    have c5 := (hb5.cell (cell_lt c4)).trans c4
    have hti := implTwoConnectedIn_any _ _ _ (ht.below hq5 (Nat.le_refl _)) (hgv4.below hb5 (Nat.le_refl _))
    rw [h2] at hti
    clear h2
    go_wp2_with fail
    refine hti.mono ?_
    rintro e w6 ⟨rfl, hb6⟩
    have hq6 := hq5.trans (hb6.mono hq5.size)
    have c6 := (hb6.cell (cell_lt c5)).trans c5
    have hb46 := hb5.trans (hb6.mono hb5.size)
    have hx6 := hx.below hb46 (Nat.le_refl _)
    have hxr := hx6.rows (ears_smallL g)
    have hgv6 := hgv4.below hb46 (Nat.le_refl _)
    have hen := endsN_le hg
    have hll : (earsL g).length ≤ 600 := by have := (ears_smallL g).1; have h2 := F2.out; omega
    have HG := Lib.hid hg
    have HLM2 := Lib.hid (show (((earsL g).map natsI).take ((earsL g).length - 1)).length = (earsL g).length - 1 by rw [List.length_take, HLM.out]; omega)
    have hse := fun (W : World) (hb : Below w6.heap.size w6 W) => specEarsOk_any (hgv6.below hb (Nat.le_refl _)) (hxr.below hb (Nat.le_refl _))
    have hie := fun (W : World) (hb : Below w6.heap.size w6 W) => implEarsOk_any (hgv6.below hb (Nat.le_refl _)) (hxr.below hb (Nat.le_refl _))
    have hit := fun (W : World) (hb : Below w6.heap.size w6 W) => implEarsOk_any (hgv6.below hb (Nat.le_refl _)) ((hxr.takeL ((earsL g).length - 1) (by rw [HLM.out]; omega)).below hb (Nat.le_refl _))
    have hwe := fun (W : World) (hb : Below w6.heap.size w6 W) => w9Edges_any hg (hgv6.below hb (Nat.le_refl _))
    rw [F1.out] at hse hie
    rw [F4.out] at hit
    have f2 := F2.out
    have hw1 : IntKind.i64.wrap (((endsN g / 2 : Nat) : Int) - (g.length : Int)) = ((endsN g / 2 : Nat) : Int) - (g.length : Int) := IntWalk.i64_in _ (by omega)
    have hw2 : IntKind.i64.wrap (((endsN g / 2 : Nat) : Int) - (g.length : Int) + 1) = ((endsN g / 2 : Nat) : Int) - (g.length : Int) + 1 := IntWalk.i64_in _ (by omega)
    have hw3 : IntKind.i64.wrap (((earsL g).length : Int) - 1) = (((earsL g).length - 1 : Nat) : Int) := by rw [IntWalk.i64_in _ (by omega)]; omega
    have hqe : (((earsL g).length : Int) == ((endsN g / 2 : Nat) : Int) - (g.length : Int) + 1) = true := by rw [beq_iff_eq]; exact f2
    have hxc : (earsL g).length ≤ xc + 1 := by
      obtain ⟨a', b', off', cap', f', he', hl', -⟩ := hxr
      simp only [Value.slice.injEq] at he'
      obtain ⟨-, he2, rfl⟩ := he'
      omega
    clear hg F1 F2 F4 f2 hgv4 hx hx6 hti hts c4 c5
    generalize (earsL g).length = el at *
    generalize endsN g / 2 = eg at *
    obtain ⟨wi, rfl⟩ : ∃ wx : World, wx = w6 := ⟨_, rfl⟩
    go_wp2
    refine wp_region_held_drew (S := (fun w' => w'.cell? ⟨w2.heap.size, 0, none⟩ = some (.slice ua g.length uc))) (by kernel_rfl) ?_ (fun hHeld => ?_)
    · first | exact ‹_› | (simp [*, go_sem])
    have hdw : Drawn wi wi.drew := (Drawn.refl _).drew
    generalize wi.drew = wz at hdw hHeld ⊢
    have hbz : Below wi.heap.size wi wz := hdw.below _
    have p1 := hHeld
    refine wpAnyH_take (i := 0) (v := ?v1) (by simp only [List.getElem?_toArray, List.getElem?_cons_zero]; exact rfl) (by kernel_rfl) (by kernel_rfl) (by kernel_rfl) (by intro _ _ _ h; exact h) (Or.inl ⟨by rfl, ?y1⟩) hHeld ?_
    case y1 => (intro w hSw; (try dsimp only at hSw); go_simp; try (with_reducible rfl))
    try simp only [Act.put, List.setIfInBounds_toArray, List.set_cons_zero, List.set_cons_succ]
    refine wpAnyH_take (i := 1) (v := ?v2) (by simp only [List.getElem?_toArray, List.getElem?_cons_succ, List.getElem?_cons_zero]; exact rfl) (by kernel_rfl) (by kernel_rfl) (by kernel_rfl) (by intro _ _ _ h; exact h) (Or.inl ⟨by rfl, ?y2⟩) hHeld ?_
    case y2 => (intro w hSw; (try dsimp only at hSw); go_simp; try (with_reducible rfl))
    try simp only [Act.put, List.setIfInBounds_toArray, List.set_cons_zero, List.set_cons_succ]
    refine wpAnyH_ready (rs := [2]) (by kernel_rfl) (by simp) ?_
    refine AllReadyH.cons (by simp only [List.getElem?_toArray, List.getElem?_cons_succ, List.getElem?_cons_zero]; exact rfl) (fun K hK => ?_) AllReadyH.nil
    go_simp
    (with_reducible refine (hse _ hbz).mono ?_)
    rintro e wy ⟨rfl, hbn⟩
    have hbz := hbz.trans (hbn.mono hbz.size)
    have p1 := (hbn.cell (cell_lt p1)).trans p1
    try dsimp only
    refine hK.out _ _ ?h4 (fun hHeld => ?_)
    case h4 => first | exact ‹_› | (simp [*, go_sem])
    clear hK K
    try simp only [Act.put, List.setIfInBounds_toArray, List.set_cons_zero, List.set_cons_succ]
    refine wpAnyH_take (i := 3) (v := ?v5) (by simp only [List.getElem?_toArray, List.getElem?_cons_succ, List.getElem?_cons_zero]; exact rfl) (by kernel_rfl) (by kernel_rfl) (by kernel_rfl) (by intro _ _ _ h; exact h) (Or.inl ⟨by rfl, ?y5⟩) hHeld ?_
    case y5 => (intro w hSw; (try dsimp only at hSw); go_simp; try (with_reducible rfl))
    try simp only [Act.put, List.setIfInBounds_toArray, List.set_cons_zero, List.set_cons_succ]
    refine wpAnyH_take (i := 4) (v := ?v6) (by simp only [List.getElem?_toArray, List.getElem?_cons_succ, List.getElem?_cons_zero]; exact rfl) (by kernel_rfl) (by kernel_rfl) (by kernel_rfl) (by intro _ _ _ h; exact h) (Or.inl ⟨by rfl, ?y6⟩) hHeld ?_
    case y6 => (intro w hSw; (try dsimp only at hSw); go_simp; try (with_reducible rfl))
    try simp only [Act.put, List.setIfInBounds_toArray, List.set_cons_zero, List.set_cons_succ]
    refine wpAnyH_take (i := 5) (v := ?v7) (by simp only [List.getElem?_toArray, List.getElem?_cons_succ, List.getElem?_cons_zero]; exact rfl) (by kernel_rfl) (by kernel_rfl) (by kernel_rfl) (by intro _ _ _ h; exact h) (Or.inl ⟨by rfl, ?y7⟩) hHeld ?_
    case y7 => (intro w hSw; (try dsimp only at hSw); go_simp; try (with_reducible rfl))
    try simp only [Act.put, List.setIfInBounds_toArray, List.set_cons_zero, List.set_cons_succ]
    refine wpAnyH_ready (rs := [6]) (by kernel_rfl) (by simp) ?_
    refine AllReadyH.cons (by simp only [List.getElem?_toArray, List.getElem?_cons_succ, List.getElem?_cons_zero]; exact rfl) (fun K hK => ?_) AllReadyH.nil
    go_simp
    (with_reducible refine (hie _ hbz).mono ?_)
    rintro e wy ⟨rfl, hbn⟩
    have hbz := hbz.trans (hbn.mono hbz.size)
    have p1 := (hbn.cell (cell_lt p1)).trans p1
    try dsimp only
    refine hK.out _ _ ?h9 (fun hHeld => ?_)
    case h9 => first | exact ‹_› | (simp [*, go_sem])
    clear hK K
    try simp only [Act.put, List.setIfInBounds_toArray, List.set_cons_zero, List.set_cons_succ]
    refine wpAnyH_take (i := 7) (v := ?v10) (by simp only [List.getElem?_toArray, List.getElem?_cons_succ, List.getElem?_cons_zero]; exact rfl) (by kernel_rfl) (by kernel_rfl) (by kernel_rfl) (by intro _ _ _ h; exact h) (Or.inl ⟨by rfl, ?y10⟩) hHeld ?_
    case y10 => (intro w hSw; (try dsimp only at hSw); go_simp; try (with_reducible rfl))
    try simp only [Act.put, List.setIfInBounds_toArray, List.set_cons_zero, List.set_cons_succ]
    refine wpAnyH_take (i := 8) (v := ?v11) (by simp only [List.getElem?_toArray, List.getElem?_cons_succ, List.getElem?_cons_zero]; exact rfl) (by kernel_rfl) (by kernel_rfl) (by kernel_rfl) (by intro _ _ _ h; exact h) (Or.inl ⟨by rfl, ?y11⟩) hHeld ?_
    case y11 => (intro w hSw; (try dsimp only at hSw); go_simp; try (with_reducible rfl))
    try simp only [Act.put, List.setIfInBounds_toArray, List.set_cons_zero, List.set_cons_succ]
    refine wpAnyH_take (i := 9) (v := ?v12) (by simp only [List.getElem?_toArray, List.getElem?_cons_succ, List.getElem?_cons_zero]; exact rfl) (by kernel_rfl) (by kernel_rfl) (by kernel_rfl) (by intro _ _ _ h; exact h) (Or.inl ⟨by rfl, ?y12⟩) hHeld ?_
    case y12 => (intro w hSw; (try dsimp only at hSw); go_simp; try (with_reducible rfl))
    try simp only [Act.put, List.setIfInBounds_toArray, List.set_cons_zero, List.set_cons_succ]
    refine wpAnyH_take (i := 10) (v := ?v13) (by simp only [List.getElem?_toArray, List.getElem?_cons_succ, List.getElem?_cons_zero]; exact rfl) (by kernel_rfl) (by kernel_rfl) (by kernel_rfl) (by intro _ _ _ h; exact h) (Or.inl ⟨by rfl, ?y13⟩) hHeld ?_
    case y13 => (intro w hSw; (try dsimp only at hSw); go_simp; try (with_reducible rfl))
    try simp only [Act.put, List.setIfInBounds_toArray, List.set_cons_zero, List.set_cons_succ]
    refine wpAnyH_take (i := 11) (v := ?v14) (by simp only [List.getElem?_toArray, List.getElem?_cons_succ, List.getElem?_cons_zero]; exact rfl) (by kernel_rfl) (by kernel_rfl) (by kernel_rfl) (by intro _ _ _ h; exact h) (Or.inl ⟨by rfl, ?y14⟩) hHeld ?_
    case y14 => (intro w hSw; (try dsimp only at hSw); go_simp; try (with_reducible rfl))
    try simp only [Act.put, List.setIfInBounds_toArray, List.set_cons_zero, List.set_cons_succ]
    refine wpAnyH_take (i := 13) (v := ?v15) (by simp only [List.getElem?_toArray, List.getElem?_cons_succ, List.getElem?_cons_zero]; exact rfl) (by kernel_rfl) (by kernel_rfl) (by kernel_rfl) (by intro _ _ _ h; exact h) (Or.inl ⟨by rfl, ?y15⟩) hHeld ?_
    case y15 => (intro w hSw; (try dsimp only at hSw); go_simp; try (with_reducible rfl))
    try simp only [Act.put, List.setIfInBounds_toArray, List.set_cons_zero, List.set_cons_succ]
    refine wpAnyH_take (i := 14) (v := ?v16) (by simp only [List.getElem?_toArray, List.getElem?_cons_succ, List.getElem?_cons_zero]; exact rfl) (by kernel_rfl) (by kernel_rfl) (by kernel_rfl) (by intro _ _ _ h; exact h) (Or.inl ⟨by rfl, ?y16⟩) hHeld ?_
    case y16 => (intro w hSw; (try dsimp only at hSw); go_simp; try (with_reducible rfl))
    try simp only [Act.put, List.setIfInBounds_toArray, List.set_cons_zero, List.set_cons_succ]
    refine wpAnyH_take (i := 15) (v := ?v17) (by simp only [List.getElem?_toArray, List.getElem?_cons_succ, List.getElem?_cons_zero]; exact rfl) (by kernel_rfl) (by kernel_rfl) (by kernel_rfl) (by intro _ _ _ h; exact h) (Or.inl ⟨by rfl, ?y17⟩) hHeld ?_
    case y17 => (intro w hSw; (try dsimp only at hSw); go_simp; try (with_reducible rfl))
    try simp only [Act.put, List.setIfInBounds_toArray, List.set_cons_zero, List.set_cons_succ]
    refine wpAnyH_ready (rs := [12]) (by kernel_rfl) (by simp) ?_
    refine AllReadyH.cons (by simp only [List.getElem?_toArray, List.getElem?_cons_succ, List.getElem?_cons_zero]; exact rfl) (fun K hK => ?_) AllReadyH.nil
    go_simp
    (with_reducible refine (hwe _ hbz).mono ?_)
    rintro e wy ⟨rfl, hbn⟩
    have hbz := hbz.trans (hbn.mono hbz.size)
    have p1 := (hbn.cell (cell_lt p1)).trans p1
    try dsimp only
    refine hK.out _ _ ?h19 (fun hHeld => ?_)
    case h19 => first | exact ‹_› | (simp [*, go_sem])
    clear hK K
    try simp only [Act.put, List.setIfInBounds_toArray, List.set_cons_zero, List.set_cons_succ]
    refine wpAnyH_take (i := 16) (v := ?v20) (by simp only [List.getElem?_toArray, List.getElem?_cons_succ, List.getElem?_cons_zero]; exact rfl) (by kernel_rfl) (by kernel_rfl) (by kernel_rfl) (by intro _ _ _ h; exact h) (Or.inl ⟨by rfl, ?y20⟩) hHeld ?_
    case y20 => (intro w hSw; (try dsimp only at hSw); go_simp; try (with_reducible rfl))
    try simp only [Act.put, List.setIfInBounds_toArray, List.set_cons_zero, List.set_cons_succ]
    refine wpAnyH_take (i := 17) (v := ?v21) (by simp only [List.getElem?_toArray, List.getElem?_cons_succ, List.getElem?_cons_zero]; exact rfl) (by kernel_rfl) (by kernel_rfl) (by kernel_rfl) (by intro _ _ _ h; exact h) (Or.inl ⟨by rfl, ?y21⟩) hHeld ?_
    case y21 => (intro w hSw; (try dsimp only at hSw); go_simp; try (with_reducible rfl))
    try simp only [Act.put, List.setIfInBounds_toArray, List.set_cons_zero, List.set_cons_succ]
    refine wpAnyH_take (i := 18) (v := ?v22) (by simp only [List.getElem?_toArray, List.getElem?_cons_succ, List.getElem?_cons_zero]; exact rfl) (by kernel_rfl) (by kernel_rfl) (by kernel_rfl) (by intro _ _ _ h; exact h) (Or.inl ⟨by rfl, ?y22⟩) hHeld ?_
    case y22 => (intro w hSw; (try dsimp only at hSw); go_simp; try (with_reducible rfl))
    try simp only [Act.put, List.setIfInBounds_toArray, List.set_cons_zero, List.set_cons_succ]
    refine wpAnyH_take (i := 19) (v := ?v23) (by simp only [List.getElem?_toArray, List.getElem?_cons_succ, List.getElem?_cons_zero]; exact rfl) (by kernel_rfl) (by kernel_rfl) (by kernel_rfl) (by intro _ _ _ h; exact h) (Or.inl ⟨by rfl, ?y23⟩) hHeld ?_
    case y23 => (intro w hSw; (try dsimp only at hSw); go_simp; try (with_reducible rfl))
    try simp only [Act.put, List.setIfInBounds_toArray, List.set_cons_zero, List.set_cons_succ]
    refine wpAnyH_take (i := 20) (v := ?v24) (by simp only [List.getElem?_toArray, List.getElem?_cons_succ, List.getElem?_cons_zero]; exact rfl) (by kernel_rfl) (by kernel_rfl) (by kernel_rfl) (by intro _ _ _ h; exact h) (Or.inl ⟨by rfl, ?y24⟩) hHeld ?_
    case y24 => (intro w hSw; (try dsimp only at hSw); go_simp; try (with_reducible rfl))
    try simp only [Act.put, List.setIfInBounds_toArray, List.set_cons_zero, List.set_cons_succ]
    refine wpAnyH_take (i := 21) (v := ?v25) (by simp only [List.getElem?_toArray, List.getElem?_cons_succ, List.getElem?_cons_zero]; exact rfl) (by kernel_rfl) (by kernel_rfl) (by kernel_rfl) (by intro _ _ _ h; exact h) (Or.inl ⟨by rfl, ?y25⟩) hHeld ?_
    case y25 => (intro w hSw; (try dsimp only at hSw); go_simp; try (with_reducible rfl))
    try simp only [Act.put, List.setIfInBounds_toArray, List.set_cons_zero, List.set_cons_succ]
    refine wpAnyH_take (i := 22) (v := ?v26) (by simp only [List.getElem?_toArray, List.getElem?_cons_succ, List.getElem?_cons_zero]; exact rfl) (by kernel_rfl) (by kernel_rfl) (by kernel_rfl) (by intro _ _ _ h; exact h) (Or.inl ⟨by rfl, ?y26⟩) hHeld ?_
    case y26 => (intro w hSw; (try dsimp only at hSw); go_simp; try (with_reducible rfl))
    try simp only [Act.put, List.setIfInBounds_toArray, List.set_cons_zero, List.set_cons_succ]
    refine wpAnyH_take (i := 23) (v := ?v27) (by simp only [List.getElem?_toArray, List.getElem?_cons_succ, List.getElem?_cons_zero]; exact rfl) (by kernel_rfl) (by kernel_rfl) (by kernel_rfl) (by intro _ _ _ h; exact h) (Or.inl ⟨by rfl, ?y27⟩) hHeld ?_
    case y27 => (intro w hSw; (try dsimp only at hSw); go_simp; try (with_reducible rfl))
    try simp only [Act.put, List.setIfInBounds_toArray, List.set_cons_zero, List.set_cons_succ]
    refine wpAnyH_take (i := 24) (v := ?v28) (by simp only [List.getElem?_toArray, List.getElem?_cons_succ, List.getElem?_cons_zero]; exact rfl) (by kernel_rfl) (by kernel_rfl) (by kernel_rfl) (by intro _ _ _ h; exact h) (Or.inl ⟨by rfl, ?y28⟩) hHeld ?_
    case y28 => (intro w hSw; (try dsimp only at hSw); go_simp; try (with_reducible rfl))
    try simp only [Act.put, List.setIfInBounds_toArray, List.set_cons_zero, List.set_cons_succ]
    refine wpAnyH_take (i := 25) (v := ?v29) (by simp only [List.getElem?_toArray, List.getElem?_cons_succ, List.getElem?_cons_zero]; exact rfl) (by kernel_rfl) (by kernel_rfl) (by kernel_rfl) (by intro _ _ _ h; exact h) (Or.inl ⟨by rfl, ?y29⟩) hHeld ?_
    case y29 => (intro w hSw; (try dsimp only at hSw); go_simp; try (with_reducible rfl))
    try simp only [Act.put, List.setIfInBounds_toArray, List.set_cons_zero, List.set_cons_succ]
    refine wpAnyH_take (i := 26) (v := ?v30) (by simp only [List.getElem?_toArray, List.getElem?_cons_succ, List.getElem?_cons_zero]; exact rfl) (by kernel_rfl) (by kernel_rfl) (by kernel_rfl) (by intro _ _ _ h; exact h) (Or.inl ⟨by rfl, ?y30⟩) hHeld ?_
    case y30 => (intro w hSw; (try dsimp only at hSw); go_simp; try (with_reducible rfl))
    try simp only [Act.put, List.setIfInBounds_toArray, List.set_cons_zero, List.set_cons_succ]
    refine wpAnyH_ready (rs := [27]) (by kernel_rfl) (by simp) ?_
    refine AllReadyH.cons (by simp only [List.getElem?_toArray, List.getElem?_cons_succ, List.getElem?_cons_zero]; exact rfl) (fun K hK => ?_) AllReadyH.nil
    go_simp
    (with_reducible refine (hit _ hbz).mono ?_)
    rintro e wy ⟨rfl, hbn⟩
    have hbz := hbz.trans (hbn.mono hbz.size)
    have p1 := (hbn.cell (cell_lt p1)).trans p1
    try dsimp only
    refine hK.out _ _ ?h32 (fun hHeld => ?_)
    case h32 => first | exact ‹_› | (simp [*, go_sem])
    clear hK K
    try simp only [Act.put, List.setIfInBounds_toArray, List.set_cons_zero, List.set_cons_succ]
    refine wpAnyH_take (i := 28) (v := ?v33) (by simp only [List.getElem?_toArray, List.getElem?_cons_succ, List.getElem?_cons_zero]; exact rfl) (by kernel_rfl) (by kernel_rfl) (by kernel_rfl) (by intro _ _ _ h; exact h) (Or.inl ⟨by rfl, ?y33⟩) hHeld ?_
    case y33 => (intro w hSw; (try dsimp only at hSw); go_simp; try (with_reducible rfl))
    try simp only [Act.put, List.setIfInBounds_toArray, List.set_cons_zero, List.set_cons_succ]
    refine wpAnyH_take (i := 29) (v := ?v34) (by simp only [List.getElem?_toArray, List.getElem?_cons_succ, List.getElem?_cons_zero]; exact rfl) (by kernel_rfl) (by kernel_rfl) (by kernel_rfl) (by intro _ _ _ h; exact h) (Or.inl ⟨by rfl, ?y34⟩) hHeld ?_
    case y34 => (intro w hSw; (try dsimp only at hSw); go_simp; try (with_reducible rfl))
    try simp only [Act.put, List.setIfInBounds_toArray, List.set_cons_zero, List.set_cons_succ]
    refine wpAnyH_take (i := 30) (v := ?v35) (by simp only [List.getElem?_toArray, List.getElem?_cons_succ, List.getElem?_cons_zero]; exact rfl) (by kernel_rfl) (by kernel_rfl) (by kernel_rfl) (by intro _ _ _ h; exact h) (Or.inl ⟨by rfl, ?y35⟩) hHeld ?_
    case y35 => (intro w hSw; (try dsimp only at hSw); go_simp; try (with_reducible rfl))
    try simp only [Act.put, List.setIfInBounds_toArray, List.set_cons_zero, List.set_cons_succ]
    refine wpAnyH_done (by kernel_rfl) ?_ _
    go_wp2
    go_ret
    exact ⟨rfl, hq6.trans (hbz.mono hq6.size)⟩
end Go.Proofs.YtgkkgagnoeedaaaDoor
