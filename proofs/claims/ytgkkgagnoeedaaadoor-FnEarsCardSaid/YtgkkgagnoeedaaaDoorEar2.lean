/- Ears: the program's useEar. -/
import Derived.Test.YtgkkgagnoeedaaaDoorEar1
namespace Go.Proofs.YtgkkgagnoeedaaaDoor
open Go.RowKit
theorem KeptBut.ofBelow {w w' : World} (h : Below w.heap.size w w') (r : Option Nat) : KeptBut w w' r := ⟨h.os, h.tape, h.output, h.size, fun k hk _ => h.block k hk⟩
theorem SlI.keptBut {S : Nat → Prop} {w w' : World} {k : IntKind} {v : Value} {xs : List Int} {r : Option Nat} (h : SlI S w k v xs) (hk : KeptBut w w' r) (hS : ∀ b, S b → b < w.heap.size ∧ r ≠ some b) : SlI S w' k v xs :=
  h.keep fun b hb => hk.2.2.2.2 b (hS b hb).1 (fun e => (hS b hb).2 e.symm)
theorem SlI.emptyC (S : Nat → Prop) (w : World) (k : IntKind) (a : Option Addr) {c : Nat} (hc : c ≤ 9223372036854775807) : SlI S w k (.slice a 0 c) [] := ⟨a, 0, 0, c, rfl, ⟨Nat.zero_le _, hc⟩, fun h => by simp at h, fun i hi => by simp at hi⟩
theorem Own.sameBlock {w w' : World} {B : Nat} {E : TypeId} {size : Nat} {v : Value} {n : Nat} {xs : List Value} (h : Own w B E size v n xs) (hb : Below w.heap.size w w') : Own w' B E size v n xs := h.below hb (Nat.le_refl _)
set_option maxRecDepth 100000 in
set_option maxHeartbeats 8000000 in
theorem useEar_any {S S' : Nat → Prop} {B m : Nat} {gv lv ev : Value} {g : List (List Int)} {ear : List Int} {U : List NP} {first : Bool} {w : World} (hg : GOk g) (hm : m < 2 ^ g.length) (hgv : SlR S w gv g)
    (hl : Own w B 82 1 lv g.length ((natsI (leftN g U)).map (.int .u32))) (he : SlI S' w .i64 ev ear) (hS' : ∀ b, S' b → b < w.heap.size ∧ lv.ownBlock ≠ some b) :
    Calls Tryd.prog 74 #[.agg #[gv], lv, .int .u32 (m : Int), ev, .bool first] w fun e w' => e = .returned (.bool (earB g ear m U first)) ∧ ∃ a' : List Nat, a'.length = g.length ∧ Own w' B 82 1 lv g.length ((natsI a').map (.int .u32)) ∧
      (earB g ear m U first = true → a' = leftN g (useU U (stepsN (natsOf ear) first))) ∧ KeptBut w w' lv.ownBlock := by
  have hq0 : Below w.heap.size w (w.alloc (.cells #[gv] 27)) := (Below.refl _ _).alloc (Nat.le_refl _) _
  have h16 := hg.hi
  have hm32 : m < 4294967296 := Nat.lt_of_lt_of_le hm (by have := pow_le16 h16; omega)
  have hel := he.len
  have htr0 := isTrail_any hg (hgv.below hq0 (Nat.le_refl _)) (he.below hq0 (Nat.le_refl _))
  obtain ⟨ga, gc, rfl⟩ := hgv.slice
  by_cases h2 : 2 ≤ ear.length
  case neg =>
    have HE := Lib.hid (show earB g ear m U first = false by
      have : ¬ (if first = true then 3 else 2) ≤ ear.length := by split <;> omega
      rw [earB, decide_eq_false this]; rfl)
    have hlb : decide ((ear.length : Int) < 2) = true := decide_eq_true (by omega)
    have hlb2 : decide (ear.length < 2) = true := decide_eq_true (by omega)
    obtain ⟨ea, ec, rfl⟩ := he.slice
    rw [HE.out]
    go_enter Tryd.func74, Tryd.ntmps74
    go_wp2
    go_ret
    exact ⟨rfl, _, leftN_len _ _, hl.sameBlock hq0, (fun h => by cases h), KeptBut.ofBelow hq0 _⟩
  have hlb : decide ((ear.length : Int) < 2) = false := decide_eq_false (by omega)
  have hlb2 : decide (ear.length < 2) = false := decide_eq_false (by omega)
  by_cases htr : trailB g ear = true
  case neg =>
    have htr' : trailB g ear = false := by simpa using htr
    have HE := Lib.hid (show earB g ear m U first = false by
      cases h : earB g ear m U first with
      | false => rfl
      | true => exact absurd (ear_is_trail hg h) htr)
    rw [htr'] at htr0
    obtain ⟨ea, ec, rfl⟩ := he.slice
    rw [HE.out]
    clear htr htr'
    go_enter Tryd.func74, Tryd.ntmps74
    go_wp2_with (go_at_call 138; refine htr0.mono ?_; rintro e w1 ⟨rfl, hb1⟩)
    go_ret
    have hb := hq0.trans (hb1.mono hq0.size)
    exact ⟨rfl, _, leftN_len _ _, hl.sameBlock hb, (fun h => by cases h), KeptBut.ofBelow hb _⟩
  rw [htr] at htr0
  obtain ⟨e1, e2, hp⟩ := ear_nats (trail_vok htr m)
  obtain ⟨p, rfl⟩ : ∃ p, ear = natsI p := ⟨_, e1.symm⟩
  have hnn : natsOf (natsI p) = p := by
    exact natsOf_natsI p
  rw [hnn] at hp
  rw [natsI_len] at h2 hlb hlb2 hel
  have hET := ear_trail (m := m) (U := U) (first := first) htr h2
  obtain ⟨eb, eo, ec, hee, hec⟩ := he.at_
  have hee := hee (by rw [natsI_len]; omega)
  obtain rfl := hee
  rw [natsI_len] at *
  have hcap := he.capOf
  rw [natsI_len] at hcap
  have hec' : ∀ i, i < p.length → w.cell? ⟨eb, eo + i, none⟩ = some (.int .i64 ((p.getD i 0 : Nat) : Int)) := fun i hi => by
    rw [hec i (by rw [natsI_len]; exact hi), natsI_at _ hi]; simp [hi]
  have hpl : ∀ i, i < p.length → p.getD i 0 < g.length := fun i hi => by
    have : p.getD i 0 = p[i] := by simp [hi]
    rw [this]; exact hp.1 _ (List.getElem_mem _)
  have hS0 : ∀ W : World, KeptBut w W lv.ownBlock → ∀ i, i < p.length → W.cell? ⟨eb, eo + i, none⟩ = some (.int .i64 ((p.getD i 0 : Nat) : Int)) := fun W hk i hi => by
    have hx := (he.keptBut hk hS').at_
    obtain ⟨b, o, c, h1, h3⟩ := hx
    have h1 := h1 (by rw [natsI_len]; omega)
    simp only [Value.slice.injEq, Option.some.injEq, Addr.mk.injEq, and_true] at h1
    obtain ⟨⟨rfl, rfl⟩, -⟩ := h1
    rw [h3 i (by rw [natsI_len]; exact hi), natsI_at _ hi]; simp [hi]
  have hw1 : IntKind.i64.wrap ((p.length : Int) - 1) = (p.length : Int) - 1 := IntWalk.i64_in _ (by omega)
  have hw2 : ((p.length : Int) - 1).toNat = p.length - 1 := by omega
  have hw3 : (0 : Int) ≤ (p.length : Int) - 1 := by omega
  have hw4 : (p.length : Int) - 1 < p.length := by omega
  have hw5 : (1 : Int) ≤ (p.length : Int) := by omega
  clear hec htr e1 e2
  by_cases hlen : (if first = true then 3 else 2) ≤ p.length
  case neg =>
    have hf : first = true := by
      cases first
      · simp at hlen; omega
      · rfl
    subst hf
    have HE := Lib.hid (show earB g (natsI p) m U true = false by rw [hET, decide_eq_false hlen]; rfl)
    simp only [if_true] at hlen
    have hlc : decide ((p.length : Int) < 3) = true := decide_eq_true (by omega)
    have hlc2 : decide (p.length < 3) = true := decide_eq_true (by omega)
    rw [HE.out]
    clear hET
    go_enter Tryd.func74, Tryd.ntmps74
    go_wp2_with (go_at_call 138; refine htr0.mono ?_; rintro e w1 ⟨rfl, hb1⟩)
    go_ret
    have hb := hq0.trans (hb1.mono hq0.size)
    exact ⟨rfl, _, leftN_len _ _, hl.sameBlock hb, (fun h => by cases h), KeptBut.ofBelow hb _⟩
  have h3 : first = true → 3 ≤ p.length := fun h => by rw [if_pos h] at hlen; exact hlen
  rw [decide_eq_true hlen, Bool.true_and] at hET
  have HP := Lib.hid hp
  have HET := Lib.hid hET
  clear hET hp
  have hstl := stepsN_len p first
  cases first with
  | false =>
    clear hlen h3
    have hkB : ∀ W : World, Below w.heap.size w W → KeptBut w W lv.ownBlock := fun W h => KeptBut.ofBelow h _
    have HINN := Lib.hid (show ∃ c2, (Value.slice (some ⟨eb, eo + 1, none⟩) (p.length - 1 - 1) (ec - 1)) = c2 from ⟨_, rfl⟩)
    have hinn : ∀ W : World, Below w.heap.size w W → SlI (fun _ => True) W .i64 (.slice (some ⟨eb, eo + 1, none⟩) (p.length - 1 - 1) (ec - 1)) ((natsI (p.take (p.length - 1))).drop 1) := fun W hb => by
      have h1 := (he.below hb (Nat.le_refl _)).weak (S' := fun _ => True) (fun _ _ => trivial)
      have h4 := h1.take (m := p.length - 1) (by omega)
      rw [show (natsI p).take (p.length - 1) = natsI (p.take (p.length - 1)) by simp [natsI]] at h4
      by_cases h5 : 1 < p.length - 1
      · exact h4.drop h5
      · have h6 : p.length - 1 - 1 = 0 := by omega
        have h7 : (natsI (p.take (p.length - 1))).drop 1 = [] := by
          apply List.drop_eq_nil_of_le
          rw [natsI_len, List.length_take]; omega
        rw [h6, h7]; exact SlI.emptyC _ _ _ _ (by omega)
    have hin32 : ∀ y ∈ (natsI (p.take (p.length - 1))).drop 1, 0 ≤ y ∧ y < 32 := fun y hy => by
      obtain ⟨a, ha, rfl⟩ := List.mem_map.1 (List.mem_of_mem_drop hy)
      have := HP.out.1 a (List.mem_of_mem_take ha)
      omega
    have hM32 := maskL_lt32 hin32
    have hmsk := fun (W : World) (hb : Below w.heap.size w W) => maskOf_any _ _ W (hinn W hb) hin32
    have HEN := Lib.hid (show endsB m p = (m.testBit (p.getD 0 0) && (m.testBit (p.getD (p.length - 1) 0) && decide (maskL ((natsI (p.take (p.length - 1))).drop 1) &&& m = 0))) from rfl)
    have hy32 := hpl (p.length - 1) (by omega)
    have hz32 := hpl 0 (by omega)
    have hca := fun (W : World) (hb : Below w.heap.size w W) => hS0 W (hkB W hb) (p.length - 1) (by omega)
    have hcb := fun (W : World) (hb : Below w.heap.size w W) => hS0 W (hkB W hb) 0 (by omega)
    simp only [Nat.add_zero] at hcb
    generalize maskL ((natsI (p.take (p.length - 1))).drop 1) = I at *
    generalize hgy : p.getD (p.length - 1) 0 = y at *
    generalize hgz : p.getD 0 0 = z at *
    have HGY := Lib.hid hgy
    have HGZ := Lib.hid hgz
    have hand : bits BinOp.and IntKind.u32 (I : Int) (m : Int) = ((I &&& m : Nat) : Int) := u32_and_nat I m hM32 hm32
    have hI0 : ((((I &&& m : Nat) : Int)) != 0) = !decide (I &&& m = 0) := by rw [Bool.eq_iff_iff, bne_iff_ne, Bool.not_eq_true', decide_eq_false_iff_not]; omega
    have hI1 : (((I &&& m)) != 0) = !decide (I &&& m = 0) := by rw [Bool.eq_iff_iff, bne_iff_ne, Bool.not_eq_true', decide_eq_false_iff_not]
    have hsl1 : (1 : Int) ≤ (p.length : Int) - 1 := by omega
    have hsl2 : (p.length : Int) - 1 ≤ (ec : Int) := by omega
    clear hinn hin32 hkB hgy hgz HINN
    by_cases hb0 : m.testBit z = true
    case neg =>
      have hb0' : m.testBit z = false := by simpa using hb0
      have HE := Lib.hid (show earB g (natsI p) m U false = false by rw [HET.out, HEN.out, hb0']; simp)
      rw [HE.out]
      clear hb0
      go_enter Tryd.func74, Tryd.ntmps74
      go_wp2_with (go_at_call 138; refine htr0.mono ?_; rintro e w1 ⟨rfl, hb1⟩; have hb2 := hq0.trans (hb1.mono hq0.size); have ca1 := hca _ hb2; have cb1 := hcb _ hb2)
      go_wp2_with (first | (go_at_call 75; refine (hmsk _ hb2).mono ?_; rintro e w' ⟨rfl, rfl⟩) | (go_at_call 107; refine (has_any _ _ _ hm32 (by omega)).mono ?_; rintro e w' ⟨rfl, rfl⟩))
      go_ret
      exact ⟨rfl, _, leftN_len _ _, hl.sameBlock hb2, (fun h => by cases h), KeptBut.ofBelow hb2 _⟩
    by_cases hb3 : m.testBit y = true
    case neg =>
      have hb3' : m.testBit y = false := by simpa using hb3
      have HE := Lib.hid (show earB g (natsI p) m U false = false by rw [HET.out, HEN.out, hb3']; simp)
      rw [HE.out]
      clear hb3
      go_enter Tryd.func74, Tryd.ntmps74
      go_wp2_with (go_at_call 138; refine htr0.mono ?_; rintro e w1 ⟨rfl, hb1⟩; have hb2 := hq0.trans (hb1.mono hq0.size); have ca1 := hca _ hb2; have cb1 := hcb _ hb2)
      go_wp2_with (first | (go_at_call 75; refine (hmsk _ hb2).mono ?_; rintro e w' ⟨rfl, rfl⟩) | (go_at_call 107; refine (has_any _ _ _ hm32 (by omega)).mono ?_; rintro e w' ⟨rfl, rfl⟩))
      go_ret
      exact ⟨rfl, _, leftN_len _ _, hl.sameBlock hb2, (fun h => by cases h), KeptBut.ofBelow hb2 _⟩
    by_cases hb4 : I &&& m = 0
    case neg =>
      rw [decide_eq_false hb4] at hI0 hI1
      have HE := Lib.hid (show earB g (natsI p) m U false = false by rw [HET.out, HEN.out, decide_eq_false hb4]; simp)
      rw [HE.out]
      clear hb4
      generalize I &&& m = IM at *
      go_enter Tryd.func74, Tryd.ntmps74
      go_wp2_with (go_at_call 138; refine htr0.mono ?_; rintro e w1 ⟨rfl, hb1⟩; have hb2 := hq0.trans (hb1.mono hq0.size); have ca1 := hca _ hb2; have cb1 := hcb _ hb2)
      go_wp2_with (first | (go_at_call 75; refine (hmsk _ hb2).mono ?_; rintro e w' ⟨rfl, rfl⟩) | (go_at_call 107; refine (has_any _ _ _ hm32 (by omega)).mono ?_; rintro e w' ⟨rfl, rfl⟩))
      go_ret
      exact ⟨rfl, _, leftN_len _ _, hl.sameBlock hb2, (fun h => by cases h), KeptBut.ofBelow hb2 _⟩
    rw [decide_eq_true hb4] at hI0 hI1
    have HED := Lib.hid (show endsB m p = true by rw [HEN.out, hb0, hb3, decide_eq_true hb4]; rfl)
    clear hb4
    generalize I &&& m = IM at *
    go_enter Tryd.func74, Tryd.ntmps74
    go_wp2_with (go_at_call 138; refine htr0.mono ?_; rintro e w1 ⟨rfl, hb1⟩; have hb2 := hq0.trans (hb1.mono hq0.size); have ca1 := hca _ hb2; have cb1 := hcb _ hb2)
    go_wp2_with (first | (go_at_call 75; refine (hmsk _ hb2).mono ?_; rintro e w' ⟨rfl, rfl⟩) | (go_at_call 107; refine (has_any _ _ _ hm32 (by omega)).mono ?_; rintro e w' ⟨rfl, rfl⟩))
    have hown1 := hl.sameBlock hb2
    have hkp1 : KeptBut w w1 lv.ownBlock := KeptBut.ofBelow hb2 _
    rw [← leftK_zero g U p false] at hown1
    have hstl : (stepsN p false).length = p.length - 1 + 0 := by simpa using hstl
    clear htr0 hl
    go_loopw [13] (fun i wr => ∃ j : Nat, 1 ≤ j ∧ j ≤ p.length ∧ i = .int .i64 j ∧ RowKit.Hid (Steps g U p false (j - 1)) ∧ Own wr B 82 1 lv g.length ((natsI (leftK g U p false (j - 1))).map (.int .u32)) ∧ KeptBut w wr lv.ownBlock) (fun i _ => p.length - (intOf i).toNat)
    case atStart => exact ⟨1, by omega, by omega, rfl, Lib.hid (Steps.zero _ _ _ _), hown1, hkp1⟩
    case round =>
      clear hown1 hkp1; clear hmsk hca hcb ca1 cb1 HGY HGZ
      obtain ⟨j, hj1, hj, rfl, HS, hown, hkp⟩ := hrel
      obtain ⟨wi, rfl⟩ : ∃ wx : World, wx = wr := ⟨_, rfl⟩
      by_cases hlt : j < p.length
      case pos =>
        have hlk : j - 1 < (stepsN p false).length := by omega
        have hsg := stepsN_get hlk
        rw [if_pos (by omega), show j - 1 + 1 = j by omega] at hsg
        obtain ⟨hu, hx, hbit, hcut⟩ := leftK_bit hg HP.out h2 (fun h => by cases h) hlk hsg (U := U)
        have hcy := fun (W : World) (hk : KeptBut w W lv.ownBlock) => hS0 W hk (j - 1) (by omega)
        have hcz := fun (W : World) (hk : KeptBut w W lv.ownBlock) => hS0 W hk j hlt
        have ca := hcy _ hkp
        have cb := hcz _ hkp
        have HS0 := Lib.hid hS0
        clear hS0 hec'
        have HNX := Lib.hid (HS.out.next hlk)
        have HBD := Lib.hid (Steps.bad (g := g) (U := U) hlk)
        have hx1 : IntKind.i64.wrap ((j : Int) - 1) = (j : Int) - 1 := IntWalk.i64_in _ (by omega)
        have hx2 : ((j : Int) - 1).toNat = j - 1 := by omega
        have hx3 : (0 : Int) ≤ (j : Int) - 1 := by omega
        have hx4 : (j : Int) - 1 < p.length := by omega
        have hx5 : (1 : Int) ≤ (j : Int) := by omega
        have hue := fun (W : World) (hd : Drawn wi W) => useEdge_any (u := p.getD (j - 1) 0) (x := p.getD j 0) (w := W) (a := leftK g U p false (j - 1)) (v := lv) (B := B) (by rw [leftK_len]; exact hown.drawn hd) (leftK_lt hg _ _ _ _) (by rw [leftK_len]; exact hu) (by rw [leftK_len]; exact hx) (by rw [leftK_len]; exact h16)
        rw [hbit, leftK_len] at hue
        have HUC := Lib.hid (show useC (leftK g U p false (j - 1)) (p.getD (j - 1) 0) (p.getD j 0) = if freeB g U (stepsN p false)[j - 1] = true then leftK g U p false j else leftK g U p false (j - 1) by
          rw [useC, hbit, hcut, show j - 1 + 1 = j by omega])
        have hucl : (useC (leftK g U p false (j - 1)) (p.getD (j - 1) 0) (p.getD j 0)).length = g.length := by
          rw [useC]; split
          · rw [cutN_len, leftK_len]
          · rw [leftK_len]
        generalize useC (leftK g U p false (j - 1)) (p.getD (j - 1) 0) (p.getD j 0) = A2 at *
        clear hbit hcut hsg
        generalize p.getD (j - 1) 0 = y at *
        generalize p.getD j 0 = z at *
        have HL2 := Lib.hid hucl
        clear hucl
        cases hfr : freeB g U (stepsN p false)[j - 1] with
        | false =>
          have HE := Lib.hid (show earB g (natsI p) m U false = false by rw [HET.out, HBD.out hfr, Bool.and_false])
          rw [hfr] at hue
          clear hfr HUC HNX
          go_wp2
          refine wp_region_held_drew (S := (fun w' => w'.cell? ⟨eb, eo + (j - 1), none⟩ = some (.int .i64 (y : Int)) ∧ w'.cell? ⟨eb, eo + j, none⟩ = some (.int .i64 (z : Int)))) (by kernel_rfl) ?_ (fun hHeld => ?_)
          · first | exact ⟨‹_›, ‹_›⟩ | assumption | (simp [*, go_sem])
          have hdw : Drawn wi wi.drew := (Drawn.refl _).drew
          generalize wi.drew = wd at hdw hHeld ⊢
          have hHeld2 := hHeld
          obtain ⟨da, db⟩ := hHeld2
          refine wpAnyH_take (i := 0) (v := ?v1) (by simp only [List.getElem?_toArray, List.getElem?_cons_zero]; exact rfl) (by kernel_rfl) (by kernel_rfl) (by kernel_rfl) (by intro _ _ _ h; exact h) (Or.inl ⟨by rfl, ?y1⟩) hHeld ?_
          case y1 => (intro w hSw; (try dsimp only at hSw); go_simp; try (with_reducible rfl))
          try simp only [Act.put, List.setIfInBounds_toArray, List.set_cons_zero, List.set_cons_succ]
          refine wpAnyH_take (i := 1) (v := ?v2) (by simp only [List.getElem?_toArray, List.getElem?_cons_succ, List.getElem?_cons_zero]; exact rfl) (by kernel_rfl) (by kernel_rfl) (by kernel_rfl) (by intro _ _ _ h; exact h) (Or.inl ⟨by rfl, ?y2⟩) hHeld ?_
          case y2 => (intro w hSw; (try dsimp only at hSw); go_simp; try (with_reducible rfl))
          try simp only [Act.put, List.setIfInBounds_toArray, List.set_cons_zero, List.set_cons_succ]
          refine wpAnyH_take (i := 2) (v := ?v3) (by simp only [List.getElem?_toArray, List.getElem?_cons_succ, List.getElem?_cons_zero]; exact rfl) (by kernel_rfl) (by kernel_rfl) (by kernel_rfl) (by intro _ _ _ h; exact h) (Or.inl ⟨by rfl, ?y3⟩) hHeld ?_
          case y3 => (intro w hSw; (try dsimp only at hSw); go_simp; try (with_reducible rfl))
          try simp only [Act.put, List.setIfInBounds_toArray, List.set_cons_zero, List.set_cons_succ]
          refine wpAnyH_take (i := 3) (v := ?v4) (by simp only [List.getElem?_toArray, List.getElem?_cons_succ, List.getElem?_cons_zero]; exact rfl) (by kernel_rfl) (by kernel_rfl) (by kernel_rfl) (by intro _ _ _ h; exact h) (Or.inl ⟨by rfl, ?y4⟩) hHeld ?_
          case y4 => (intro w hSw; (try dsimp only at hSw); go_simp; try (with_reducible rfl))
          try simp only [Act.put, List.setIfInBounds_toArray, List.set_cons_zero, List.set_cons_succ]
          refine wpAnyH_take (i := 4) (v := ?v5) (by simp only [List.getElem?_toArray, List.getElem?_cons_succ, List.getElem?_cons_zero]; exact rfl) (by kernel_rfl) (by kernel_rfl) (by kernel_rfl) (by intro _ _ _ h; exact h) (Or.inl ⟨by rfl, ?y5⟩) hHeld ?_
          case y5 => (intro w hSw; (try dsimp only at hSw); go_simp; try (with_reducible rfl))
          try simp only [Act.put, List.setIfInBounds_toArray, List.set_cons_zero, List.set_cons_succ]
          refine wpAnyH_take (i := 5) (v := ?v6) (by simp only [List.getElem?_toArray, List.getElem?_cons_succ, List.getElem?_cons_zero]; exact rfl) (by kernel_rfl) (by kernel_rfl) (by kernel_rfl) (by intro _ _ _ h; exact h) (Or.inl ⟨by rfl, ?y6⟩) hHeld ?_
          case y6 => (intro w hSw; (try dsimp only at hSw); go_simp; try (with_reducible rfl))
          try simp only [Act.put, List.setIfInBounds_toArray, List.set_cons_zero, List.set_cons_succ]
          refine wpAnyH_take (i := 6) (v := ?v7) (by simp only [List.getElem?_toArray, List.getElem?_cons_succ, List.getElem?_cons_zero]; exact rfl) (by kernel_rfl) (by kernel_rfl) (by kernel_rfl) (by intro _ _ _ h; exact h) (Or.inl ⟨by rfl, ?y7⟩) hHeld ?_
          case y7 => (intro w hSw; (try dsimp only at hSw); go_simp; try (with_reducible rfl))
          try simp only [Act.put, List.setIfInBounds_toArray, List.set_cons_zero, List.set_cons_succ]
          refine wpAnyH_take (i := 7) (v := ?v8) (by simp only [List.getElem?_toArray, List.getElem?_cons_succ, List.getElem?_cons_zero]; exact rfl) (by kernel_rfl) (by kernel_rfl) (by kernel_rfl) (by intro _ _ _ h; exact h) (Or.inl ⟨by rfl, ?y8⟩) hHeld ?_
          case y8 => (intro w hSw; (try dsimp only at hSw); go_simp; try (with_reducible rfl))
          try simp only [Act.put, List.setIfInBounds_toArray, List.set_cons_zero, List.set_cons_succ]
          refine wpAnyH_take (i := 8) (v := ?v9) (by simp only [List.getElem?_toArray, List.getElem?_cons_succ, List.getElem?_cons_zero]; exact rfl) (by kernel_rfl) (by kernel_rfl) (by kernel_rfl) (by intro _ _ _ h; exact h) (Or.inl ⟨by rfl, ?y9⟩) hHeld ?_
          case y9 => (intro w hSw; (try dsimp only at hSw); go_simp; try (with_reducible rfl))
          try simp only [Act.put, List.setIfInBounds_toArray, List.set_cons_zero, List.set_cons_succ]
          refine wpAnyH_take (i := 9) (v := ?v10) (by simp only [List.getElem?_toArray, List.getElem?_cons_succ, List.getElem?_cons_zero]; exact rfl) (by kernel_rfl) (by kernel_rfl) (by kernel_rfl) (by intro _ _ _ h; exact h) (Or.inl ⟨by rfl, ?y10⟩) hHeld ?_
          case y10 => (intro w hSw; (try dsimp only at hSw); go_simp; try (with_reducible rfl))
          try simp only [Act.put, List.setIfInBounds_toArray, List.set_cons_zero, List.set_cons_succ]
          refine wpAnyH_ready (rs := [10]) (by kernel_rfl) (by simp) ?_
          refine AllReadyH.cons (by simp only [List.getElem?_toArray, List.getElem?_cons_succ, List.getElem?_cons_zero]; exact rfl) (fun K hK => ?_) AllReadyH.nil
          go_simp
          refine (hue _ hdw).mono ?_
          rintro e wn ⟨rfl, hown2, hkp2⟩
          have hkp3 := (hkp.trans (KeptBut.ofDrawn hdw _)).trans hkp2
          have ea := hcy _ hkp3
          have eb2 := hcz _ hkp3
          try dsimp only
          refine hK.out _ _ ?h12 (fun hHeld => ?_)
          case h12 => first | exact ⟨‹_›, ‹_›⟩ | assumption | (simp [*, go_sem])
          clear hK K
          try simp only [Act.put, List.setIfInBounds_toArray, List.set_cons_zero, List.set_cons_succ]
          refine wpAnyH_take (i := 11) (v := ?v13) (by simp only [List.getElem?_toArray, List.getElem?_cons_succ, List.getElem?_cons_zero]; exact rfl) (by kernel_rfl) (by kernel_rfl) (by kernel_rfl) (by intro _ _ _ h; exact h) (Or.inl ⟨by rfl, ?y13⟩) hHeld ?_
          case y13 => (intro w hSw; (try dsimp only at hSw); go_simp; try (with_reducible rfl))
          try simp only [Act.put, List.setIfInBounds_toArray, List.set_cons_zero, List.set_cons_succ]
          refine wpAnyH_done (by kernel_rfl) ?_ _
          go_wp2
          go_ret
          exact ⟨ret_bool HE.out.symm, _, HL2.out, hown2, (fun h => by rw [HE.out] at h; cases h), hkp3⟩
        | true =>
          have hux := HUC.out
          rw [hfr, if_pos rfl] at hux
          have HUX := Lib.hid hux
          have HS2 := Lib.hid (HNX.out hfr)
          rw [hfr] at hue
          clear hfr HUC HBD hux HNX
          go_wp2
          refine wp_region_held_drew (S := (fun w' => w'.cell? ⟨eb, eo + (j - 1), none⟩ = some (.int .i64 (y : Int)) ∧ w'.cell? ⟨eb, eo + j, none⟩ = some (.int .i64 (z : Int)))) (by kernel_rfl) ?_ (fun hHeld => ?_)
          · first | exact ⟨‹_›, ‹_›⟩ | assumption | (simp [*, go_sem])
          have hdw : Drawn wi wi.drew := (Drawn.refl _).drew
          generalize wi.drew = wd at hdw hHeld ⊢
          have hHeld2 := hHeld
          obtain ⟨da, db⟩ := hHeld2
          refine wpAnyH_take (i := 0) (v := ?v14) (by simp only [List.getElem?_toArray, List.getElem?_cons_zero]; exact rfl) (by kernel_rfl) (by kernel_rfl) (by kernel_rfl) (by intro _ _ _ h; exact h) (Or.inl ⟨by rfl, ?y14⟩) hHeld ?_
          case y14 => (intro w hSw; (try dsimp only at hSw); go_simp; try (with_reducible rfl))
          try simp only [Act.put, List.setIfInBounds_toArray, List.set_cons_zero, List.set_cons_succ]
          refine wpAnyH_take (i := 1) (v := ?v15) (by simp only [List.getElem?_toArray, List.getElem?_cons_succ, List.getElem?_cons_zero]; exact rfl) (by kernel_rfl) (by kernel_rfl) (by kernel_rfl) (by intro _ _ _ h; exact h) (Or.inl ⟨by rfl, ?y15⟩) hHeld ?_
          case y15 => (intro w hSw; (try dsimp only at hSw); go_simp; try (with_reducible rfl))
          try simp only [Act.put, List.setIfInBounds_toArray, List.set_cons_zero, List.set_cons_succ]
          refine wpAnyH_take (i := 2) (v := ?v16) (by simp only [List.getElem?_toArray, List.getElem?_cons_succ, List.getElem?_cons_zero]; exact rfl) (by kernel_rfl) (by kernel_rfl) (by kernel_rfl) (by intro _ _ _ h; exact h) (Or.inl ⟨by rfl, ?y16⟩) hHeld ?_
          case y16 => (intro w hSw; (try dsimp only at hSw); go_simp; try (with_reducible rfl))
          try simp only [Act.put, List.setIfInBounds_toArray, List.set_cons_zero, List.set_cons_succ]
          refine wpAnyH_take (i := 3) (v := ?v17) (by simp only [List.getElem?_toArray, List.getElem?_cons_succ, List.getElem?_cons_zero]; exact rfl) (by kernel_rfl) (by kernel_rfl) (by kernel_rfl) (by intro _ _ _ h; exact h) (Or.inl ⟨by rfl, ?y17⟩) hHeld ?_
          case y17 => (intro w hSw; (try dsimp only at hSw); go_simp; try (with_reducible rfl))
          try simp only [Act.put, List.setIfInBounds_toArray, List.set_cons_zero, List.set_cons_succ]
          refine wpAnyH_take (i := 4) (v := ?v18) (by simp only [List.getElem?_toArray, List.getElem?_cons_succ, List.getElem?_cons_zero]; exact rfl) (by kernel_rfl) (by kernel_rfl) (by kernel_rfl) (by intro _ _ _ h; exact h) (Or.inl ⟨by rfl, ?y18⟩) hHeld ?_
          case y18 => (intro w hSw; (try dsimp only at hSw); go_simp; try (with_reducible rfl))
          try simp only [Act.put, List.setIfInBounds_toArray, List.set_cons_zero, List.set_cons_succ]
          refine wpAnyH_take (i := 5) (v := ?v19) (by simp only [List.getElem?_toArray, List.getElem?_cons_succ, List.getElem?_cons_zero]; exact rfl) (by kernel_rfl) (by kernel_rfl) (by kernel_rfl) (by intro _ _ _ h; exact h) (Or.inl ⟨by rfl, ?y19⟩) hHeld ?_
          case y19 => (intro w hSw; (try dsimp only at hSw); go_simp; try (with_reducible rfl))
          try simp only [Act.put, List.setIfInBounds_toArray, List.set_cons_zero, List.set_cons_succ]
          refine wpAnyH_take (i := 6) (v := ?v20) (by simp only [List.getElem?_toArray, List.getElem?_cons_succ, List.getElem?_cons_zero]; exact rfl) (by kernel_rfl) (by kernel_rfl) (by kernel_rfl) (by intro _ _ _ h; exact h) (Or.inl ⟨by rfl, ?y20⟩) hHeld ?_
          case y20 => (intro w hSw; (try dsimp only at hSw); go_simp; try (with_reducible rfl))
          try simp only [Act.put, List.setIfInBounds_toArray, List.set_cons_zero, List.set_cons_succ]
          refine wpAnyH_take (i := 7) (v := ?v21) (by simp only [List.getElem?_toArray, List.getElem?_cons_succ, List.getElem?_cons_zero]; exact rfl) (by kernel_rfl) (by kernel_rfl) (by kernel_rfl) (by intro _ _ _ h; exact h) (Or.inl ⟨by rfl, ?y21⟩) hHeld ?_
          case y21 => (intro w hSw; (try dsimp only at hSw); go_simp; try (with_reducible rfl))
          try simp only [Act.put, List.setIfInBounds_toArray, List.set_cons_zero, List.set_cons_succ]
          refine wpAnyH_take (i := 8) (v := ?v22) (by simp only [List.getElem?_toArray, List.getElem?_cons_succ, List.getElem?_cons_zero]; exact rfl) (by kernel_rfl) (by kernel_rfl) (by kernel_rfl) (by intro _ _ _ h; exact h) (Or.inl ⟨by rfl, ?y22⟩) hHeld ?_
          case y22 => (intro w hSw; (try dsimp only at hSw); go_simp; try (with_reducible rfl))
          try simp only [Act.put, List.setIfInBounds_toArray, List.set_cons_zero, List.set_cons_succ]
          refine wpAnyH_take (i := 9) (v := ?v23) (by simp only [List.getElem?_toArray, List.getElem?_cons_succ, List.getElem?_cons_zero]; exact rfl) (by kernel_rfl) (by kernel_rfl) (by kernel_rfl) (by intro _ _ _ h; exact h) (Or.inl ⟨by rfl, ?y23⟩) hHeld ?_
          case y23 => (intro w hSw; (try dsimp only at hSw); go_simp; try (with_reducible rfl))
          try simp only [Act.put, List.setIfInBounds_toArray, List.set_cons_zero, List.set_cons_succ]
          refine wpAnyH_ready (rs := [10]) (by kernel_rfl) (by simp) ?_
          refine AllReadyH.cons (by simp only [List.getElem?_toArray, List.getElem?_cons_succ, List.getElem?_cons_zero]; exact rfl) (fun K hK => ?_) AllReadyH.nil
          go_simp
          refine (hue _ hdw).mono ?_
          rintro e wn ⟨rfl, hown2, hkp2⟩
          have hkp3 := (hkp.trans (KeptBut.ofDrawn hdw _)).trans hkp2
          have ea := hcy _ hkp3
          have eb2 := hcz _ hkp3
          try dsimp only
          refine hK.out _ _ ?h25 (fun hHeld => ?_)
          case h25 => first | exact ⟨‹_›, ‹_›⟩ | assumption | (simp [*, go_sem])
          clear hK K
          try simp only [Act.put, List.setIfInBounds_toArray, List.set_cons_zero, List.set_cons_succ]
          refine wpAnyH_take (i := 11) (v := ?v26) (by simp only [List.getElem?_toArray, List.getElem?_cons_succ, List.getElem?_cons_zero]; exact rfl) (by kernel_rfl) (by kernel_rfl) (by kernel_rfl) (by intro _ _ _ h; exact h) (Or.inl ⟨by rfl, ?y26⟩) hHeld ?_
          case y26 => (intro w hSw; (try dsimp only at hSw); go_simp; try (with_reducible rfl))
          try simp only [Act.put, List.setIfInBounds_toArray, List.set_cons_zero, List.set_cons_succ]
          refine wpAnyH_done (by kernel_rfl) ?_ _
          go_wp2
          go_roundw
          case rel => exact ⟨j + 1, by omega, by omega, by go_num, by rw [show j + 1 - 1 = j - 1 + 1 by omega]; exact HS2, by rw [show j + 1 - 1 = j by omega, ← HUX.out]; exact hown2, hkp3⟩
          case measure => simp [intOf]; omega
      obtain rfl : j = p.length := by omega
      have HE := Lib.hid (show earB g (natsI p) m U false = true by rw [HET.out, HS.out.all (by omega), HED.out]; rfl)
      have HLK := Lib.hid (show leftK g U p false (p.length - 1) = leftN g (useU U (stepsN p false)) by rw [leftK, List.take_of_length_le (by omega)])
      rw [HLK.out] at hown
      go_wp2
      refine wp_region_held_drew (S := (fun w' => True)) (by kernel_rfl) ?_ (fun hHeld => ?_)
      · trivial
      have hdw : Drawn wi wi.drew := (Drawn.refl _).drew
      generalize wi.drew = wd at hdw hHeld ⊢
      refine wpAnyH_take (i := 0) (v := ?v27) (by simp only [List.getElem?_toArray, List.getElem?_cons_zero]; exact rfl) (by kernel_rfl) (by kernel_rfl) (by kernel_rfl) (by intro _ _ _ h; exact h) (Or.inl ⟨by rfl, ?y27⟩) hHeld ?_
      case y27 => (intro w hSw; (try dsimp only at hSw); go_simp; try (with_reducible rfl))
      try simp only [Act.put, List.setIfInBounds_toArray, List.set_cons_zero, List.set_cons_succ]
      refine wpAnyH_take (i := 1) (v := ?v28) (by simp only [List.getElem?_toArray, List.getElem?_cons_succ, List.getElem?_cons_zero]; exact rfl) (by kernel_rfl) (by kernel_rfl) (by kernel_rfl) (by intro _ _ _ h; exact h) (Or.inl ⟨by rfl, ?y28⟩) hHeld ?_
      case y28 => (intro w hSw; (try dsimp only at hSw); go_simp; try (with_reducible rfl))
      try simp only [Act.put, List.setIfInBounds_toArray, List.set_cons_zero, List.set_cons_succ]
      refine wpAnyH_take (i := 2) (v := ?v29) (by simp only [List.getElem?_toArray, List.getElem?_cons_succ, List.getElem?_cons_zero]; exact rfl) (by kernel_rfl) (by kernel_rfl) (by kernel_rfl) (by intro _ _ _ h; exact h) (Or.inl ⟨by rfl, ?y29⟩) hHeld ?_
      case y29 => (intro w hSw; (try dsimp only at hSw); go_simp; try (with_reducible rfl))
      try simp only [Act.put, List.setIfInBounds_toArray, List.set_cons_zero, List.set_cons_succ]
      refine wpAnyH_take (i := 3) (by simp only [List.getElem?_toArray, List.getElem?_cons_succ, List.getElem?_cons_zero]; exact rfl) (by kernel_rfl) (by kernel_rfl) (by kernel_rfl) (by intro _ _ _ h; exact h) (Or.inr ⟨by rfl, rfl⟩) hHeld ?_
      try simp only [Act.put, List.setIfInBounds_toArray, List.set_cons_zero, List.set_cons_succ]
      refine wpAnyH_take (i := 4) (by simp only [List.getElem?_toArray, List.getElem?_cons_succ, List.getElem?_cons_zero]; exact rfl) (by kernel_rfl) (by kernel_rfl) (by kernel_rfl) (by intro _ _ _ h; exact h) (Or.inr ⟨by rfl, rfl⟩) hHeld ?_
      try simp only [Act.put, List.setIfInBounds_toArray, List.set_cons_zero, List.set_cons_succ]
      refine wpAnyH_take (i := 5) (by simp only [List.getElem?_toArray, List.getElem?_cons_succ, List.getElem?_cons_zero]; exact rfl) (by kernel_rfl) (by kernel_rfl) (by kernel_rfl) (by intro _ _ _ h; exact h) (Or.inr ⟨by rfl, rfl⟩) hHeld ?_
      try simp only [Act.put, List.setIfInBounds_toArray, List.set_cons_zero, List.set_cons_succ]
      refine wpAnyH_take (i := 6) (by simp only [List.getElem?_toArray, List.getElem?_cons_succ, List.getElem?_cons_zero]; exact rfl) (by kernel_rfl) (by kernel_rfl) (by kernel_rfl) (by intro _ _ _ h; exact h) (Or.inr ⟨by rfl, rfl⟩) hHeld ?_
      try simp only [Act.put, List.setIfInBounds_toArray, List.set_cons_zero, List.set_cons_succ]
      refine wpAnyH_take (i := 7) (by simp only [List.getElem?_toArray, List.getElem?_cons_succ, List.getElem?_cons_zero]; exact rfl) (by kernel_rfl) (by kernel_rfl) (by kernel_rfl) (by intro _ _ _ h; exact h) (Or.inr ⟨by rfl, rfl⟩) hHeld ?_
      try simp only [Act.put, List.setIfInBounds_toArray, List.set_cons_zero, List.set_cons_succ]
      refine wpAnyH_take (i := 8) (by simp only [List.getElem?_toArray, List.getElem?_cons_succ, List.getElem?_cons_zero]; exact rfl) (by kernel_rfl) (by kernel_rfl) (by kernel_rfl) (by intro _ _ _ h; exact h) (Or.inr ⟨by rfl, rfl⟩) hHeld ?_
      try simp only [Act.put, List.setIfInBounds_toArray, List.set_cons_zero, List.set_cons_succ]
      refine wpAnyH_take (i := 9) (by simp only [List.getElem?_toArray, List.getElem?_cons_succ, List.getElem?_cons_zero]; exact rfl) (by kernel_rfl) (by kernel_rfl) (by kernel_rfl) (by intro _ _ _ h; exact h) (Or.inr ⟨by rfl, rfl⟩) hHeld ?_
      try simp only [Act.put, List.setIfInBounds_toArray, List.set_cons_zero, List.set_cons_succ]
      refine wpAnyH_take (i := 10) (by simp only [List.getElem?_toArray, List.getElem?_cons_succ, List.getElem?_cons_zero]; exact rfl) (by kernel_rfl) (by kernel_rfl) (by kernel_rfl) (by intro _ _ _ h; exact h) (Or.inr ⟨by rfl, rfl⟩) hHeld ?_
      try simp only [Act.put, List.setIfInBounds_toArray, List.set_cons_zero, List.set_cons_succ]
      refine wpAnyH_take (i := 11) (by simp only [List.getElem?_toArray, List.getElem?_cons_succ, List.getElem?_cons_zero]; exact rfl) (by kernel_rfl) (by kernel_rfl) (by kernel_rfl) (by intro _ _ _ h; exact h) (Or.inr ⟨by rfl, rfl⟩) hHeld ?_
      try simp only [Act.put, List.setIfInBounds_toArray, List.set_cons_zero, List.set_cons_succ]
      refine wpAnyH_take (i := 12) (by simp only [List.getElem?_toArray, List.getElem?_cons_succ, List.getElem?_cons_zero]; exact rfl) (by kernel_rfl) (by kernel_rfl) (by kernel_rfl) (by intro _ _ _ h; exact h) (Or.inr ⟨by rfl, rfl⟩) hHeld ?_
      try simp only [Act.put, List.setIfInBounds_toArray, List.set_cons_zero, List.set_cons_succ]
      refine wpAnyH_take (i := 13) (v := ?v40) (by simp only [List.getElem?_toArray, List.getElem?_cons_succ, List.getElem?_cons_zero]; exact rfl) (by kernel_rfl) (by kernel_rfl) (by kernel_rfl) (by intro _ _ _ h; exact h) (Or.inl ⟨by rfl, ?y40⟩) hHeld ?_
      case y40 => (intro w hSw; (try dsimp only at hSw); go_simp; try (with_reducible rfl))
      try simp only [Act.put, List.setIfInBounds_toArray, List.set_cons_zero, List.set_cons_succ]
      refine wpAnyH_take (i := 14) (v := ?v41) (by simp only [List.getElem?_toArray, List.getElem?_cons_succ, List.getElem?_cons_zero]; exact rfl) (by kernel_rfl) (by kernel_rfl) (by kernel_rfl) (by intro _ _ _ h; exact h) (Or.inl ⟨by rfl, ?y41⟩) hHeld ?_
      case y41 => (intro w hSw; (try dsimp only at hSw); go_simp; try (with_reducible rfl))
      try simp only [Act.put, List.setIfInBounds_toArray, List.set_cons_zero, List.set_cons_succ]
      refine wpAnyH_done (by kernel_rfl) ?_ _
      go_wp2
      go_ret
      exact ⟨ret_bool HE.out.symm, _, leftN_len _ _, hown.drawn hdw, fun _ => by rw [natsOf_natsI], hkp.trans (KeptBut.ofDrawn hdw _)⟩
  | true =>
    have h3t : 3 ≤ p.length := h3 rfl
    have hlc : decide ((p.length : Int) < 3) = false := decide_eq_false (by have := h3 rfl; omega)
    have hlc2 : decide (p.length < 3) = false := decide_eq_false (by have := h3 rfl; omega)
    clear hlen h3
    go_enter Tryd.func74, Tryd.ntmps74
    go_wp2_with (go_at_call 138; refine htr0.mono ?_; rintro e w1 ⟨rfl, hb1⟩)
    have hb2 := hq0.trans (hb1.mono hq0.size)
    have hown1 := hl.sameBlock hb2
    have hkp1 : KeptBut w w1 lv.ownBlock := KeptBut.ofBelow hb2 _
    rw [← leftK_zero g U p true] at hown1
    have hstl : (stepsN p true).length = p.length - 1 + 1 := by simpa using hstl
    clear htr0 hl
    go_loopw [13] (fun i wr => ∃ j : Nat, 1 ≤ j ∧ j ≤ p.length ∧ i = .int .i64 j ∧ RowKit.Hid (Steps g U p true (j - 1)) ∧ Own wr B 82 1 lv g.length ((natsI (leftK g U p true (j - 1))).map (.int .u32)) ∧ KeptBut w wr lv.ownBlock) (fun i _ => p.length - (intOf i).toNat)
    case atStart => exact ⟨1, by omega, by omega, rfl, Lib.hid (Steps.zero _ _ _ _), hown1, hkp1⟩
    case round =>
      clear hown1 hkp1
      obtain ⟨j, hj1, hj, rfl, HS, hown, hkp⟩ := hrel
      obtain ⟨wi, rfl⟩ : ∃ wx : World, wx = wr := ⟨_, rfl⟩
      by_cases hlt : j < p.length
      case pos =>
        have hlk : j - 1 < (stepsN p true).length := by omega
        have hsg := stepsN_get hlk
        rw [if_pos (by omega), show j - 1 + 1 = j by omega] at hsg
        obtain ⟨hu, hx, hbit, hcut⟩ := leftK_bit hg HP.out h2 (fun _ => h3t) hlk hsg (U := U)
        have hcy := fun (W : World) (hk : KeptBut w W lv.ownBlock) => hS0 W hk (j - 1) (by omega)
        have hcz := fun (W : World) (hk : KeptBut w W lv.ownBlock) => hS0 W hk j hlt
        have ca := hcy _ hkp
        have cb := hcz _ hkp
        have HS0 := Lib.hid hS0
        clear hS0 hec'
        have HNX := Lib.hid (HS.out.next hlk)
        have HBD := Lib.hid (Steps.bad (g := g) (U := U) hlk)
        have hx1 : IntKind.i64.wrap ((j : Int) - 1) = (j : Int) - 1 := IntWalk.i64_in _ (by omega)
        have hx2 : ((j : Int) - 1).toNat = j - 1 := by omega
        have hx3 : (0 : Int) ≤ (j : Int) - 1 := by omega
        have hx4 : (j : Int) - 1 < p.length := by omega
        have hx5 : (1 : Int) ≤ (j : Int) := by omega
        have hue := fun (W : World) (hd : Drawn wi W) => useEdge_any (u := p.getD (j - 1) 0) (x := p.getD j 0) (w := W) (a := leftK g U p true (j - 1)) (v := lv) (B := B) (by rw [leftK_len]; exact hown.drawn hd) (leftK_lt hg _ _ _ _) (by rw [leftK_len]; exact hu) (by rw [leftK_len]; exact hx) (by rw [leftK_len]; exact h16)
        rw [hbit, leftK_len] at hue
        have HUC := Lib.hid (show useC (leftK g U p true (j - 1)) (p.getD (j - 1) 0) (p.getD j 0) = if freeB g U (stepsN p true)[j - 1] = true then leftK g U p true j else leftK g U p true (j - 1) by
          rw [useC, hbit, hcut, show j - 1 + 1 = j by omega])
        have hucl : (useC (leftK g U p true (j - 1)) (p.getD (j - 1) 0) (p.getD j 0)).length = g.length := by
          rw [useC]; split
          · rw [cutN_len, leftK_len]
          · rw [leftK_len]
        generalize useC (leftK g U p true (j - 1)) (p.getD (j - 1) 0) (p.getD j 0) = A2 at *
        clear hbit hcut hsg
        generalize p.getD (j - 1) 0 = y at *
        generalize p.getD j 0 = z at *
        have HL2 := Lib.hid hucl
        clear hucl
        cases hfr : freeB g U (stepsN p true)[j - 1] with
        | false =>
          have HE := Lib.hid (show earB g (natsI p) m U true = false by rw [HET.out, HBD.out hfr, Bool.and_false])
          rw [hfr] at hue
          clear hfr HUC HNX
          go_wp2
          refine wp_region_held_drew (S := (fun w' => w'.cell? ⟨eb, eo + (j - 1), none⟩ = some (.int .i64 (y : Int)) ∧ w'.cell? ⟨eb, eo + j, none⟩ = some (.int .i64 (z : Int)))) (by kernel_rfl) ?_ (fun hHeld => ?_)
          · first | exact ⟨‹_›, ‹_›⟩ | assumption | (simp [*, go_sem])
          have hdw : Drawn wi wi.drew := (Drawn.refl _).drew
          generalize wi.drew = wd at hdw hHeld ⊢
          have hHeld2 := hHeld
          obtain ⟨da, db⟩ := hHeld2
          refine wpAnyH_take (i := 0) (v := ?v42) (by simp only [List.getElem?_toArray, List.getElem?_cons_zero]; exact rfl) (by kernel_rfl) (by kernel_rfl) (by kernel_rfl) (by intro _ _ _ h; exact h) (Or.inl ⟨by rfl, ?y42⟩) hHeld ?_
          case y42 => (intro w hSw; (try dsimp only at hSw); go_simp; try (with_reducible rfl))
          try simp only [Act.put, List.setIfInBounds_toArray, List.set_cons_zero, List.set_cons_succ]
          refine wpAnyH_take (i := 1) (v := ?v43) (by simp only [List.getElem?_toArray, List.getElem?_cons_succ, List.getElem?_cons_zero]; exact rfl) (by kernel_rfl) (by kernel_rfl) (by kernel_rfl) (by intro _ _ _ h; exact h) (Or.inl ⟨by rfl, ?y43⟩) hHeld ?_
          case y43 => (intro w hSw; (try dsimp only at hSw); go_simp; try (with_reducible rfl))
          try simp only [Act.put, List.setIfInBounds_toArray, List.set_cons_zero, List.set_cons_succ]
          refine wpAnyH_take (i := 2) (v := ?v44) (by simp only [List.getElem?_toArray, List.getElem?_cons_succ, List.getElem?_cons_zero]; exact rfl) (by kernel_rfl) (by kernel_rfl) (by kernel_rfl) (by intro _ _ _ h; exact h) (Or.inl ⟨by rfl, ?y44⟩) hHeld ?_
          case y44 => (intro w hSw; (try dsimp only at hSw); go_simp; try (with_reducible rfl))
          try simp only [Act.put, List.setIfInBounds_toArray, List.set_cons_zero, List.set_cons_succ]
          refine wpAnyH_take (i := 3) (v := ?v45) (by simp only [List.getElem?_toArray, List.getElem?_cons_succ, List.getElem?_cons_zero]; exact rfl) (by kernel_rfl) (by kernel_rfl) (by kernel_rfl) (by intro _ _ _ h; exact h) (Or.inl ⟨by rfl, ?y45⟩) hHeld ?_
          case y45 => (intro w hSw; (try dsimp only at hSw); go_simp; try (with_reducible rfl))
          try simp only [Act.put, List.setIfInBounds_toArray, List.set_cons_zero, List.set_cons_succ]
          refine wpAnyH_take (i := 4) (v := ?v46) (by simp only [List.getElem?_toArray, List.getElem?_cons_succ, List.getElem?_cons_zero]; exact rfl) (by kernel_rfl) (by kernel_rfl) (by kernel_rfl) (by intro _ _ _ h; exact h) (Or.inl ⟨by rfl, ?y46⟩) hHeld ?_
          case y46 => (intro w hSw; (try dsimp only at hSw); go_simp; try (with_reducible rfl))
          try simp only [Act.put, List.setIfInBounds_toArray, List.set_cons_zero, List.set_cons_succ]
          refine wpAnyH_take (i := 5) (v := ?v47) (by simp only [List.getElem?_toArray, List.getElem?_cons_succ, List.getElem?_cons_zero]; exact rfl) (by kernel_rfl) (by kernel_rfl) (by kernel_rfl) (by intro _ _ _ h; exact h) (Or.inl ⟨by rfl, ?y47⟩) hHeld ?_
          case y47 => (intro w hSw; (try dsimp only at hSw); go_simp; try (with_reducible rfl))
          try simp only [Act.put, List.setIfInBounds_toArray, List.set_cons_zero, List.set_cons_succ]
          refine wpAnyH_take (i := 6) (v := ?v48) (by simp only [List.getElem?_toArray, List.getElem?_cons_succ, List.getElem?_cons_zero]; exact rfl) (by kernel_rfl) (by kernel_rfl) (by kernel_rfl) (by intro _ _ _ h; exact h) (Or.inl ⟨by rfl, ?y48⟩) hHeld ?_
          case y48 => (intro w hSw; (try dsimp only at hSw); go_simp; try (with_reducible rfl))
          try simp only [Act.put, List.setIfInBounds_toArray, List.set_cons_zero, List.set_cons_succ]
          refine wpAnyH_take (i := 7) (v := ?v49) (by simp only [List.getElem?_toArray, List.getElem?_cons_succ, List.getElem?_cons_zero]; exact rfl) (by kernel_rfl) (by kernel_rfl) (by kernel_rfl) (by intro _ _ _ h; exact h) (Or.inl ⟨by rfl, ?y49⟩) hHeld ?_
          case y49 => (intro w hSw; (try dsimp only at hSw); go_simp; try (with_reducible rfl))
          try simp only [Act.put, List.setIfInBounds_toArray, List.set_cons_zero, List.set_cons_succ]
          refine wpAnyH_take (i := 8) (v := ?v50) (by simp only [List.getElem?_toArray, List.getElem?_cons_succ, List.getElem?_cons_zero]; exact rfl) (by kernel_rfl) (by kernel_rfl) (by kernel_rfl) (by intro _ _ _ h; exact h) (Or.inl ⟨by rfl, ?y50⟩) hHeld ?_
          case y50 => (intro w hSw; (try dsimp only at hSw); go_simp; try (with_reducible rfl))
          try simp only [Act.put, List.setIfInBounds_toArray, List.set_cons_zero, List.set_cons_succ]
          refine wpAnyH_take (i := 9) (v := ?v51) (by simp only [List.getElem?_toArray, List.getElem?_cons_succ, List.getElem?_cons_zero]; exact rfl) (by kernel_rfl) (by kernel_rfl) (by kernel_rfl) (by intro _ _ _ h; exact h) (Or.inl ⟨by rfl, ?y51⟩) hHeld ?_
          case y51 => (intro w hSw; (try dsimp only at hSw); go_simp; try (with_reducible rfl))
          try simp only [Act.put, List.setIfInBounds_toArray, List.set_cons_zero, List.set_cons_succ]
          refine wpAnyH_ready (rs := [10]) (by kernel_rfl) (by simp) ?_
          refine AllReadyH.cons (by simp only [List.getElem?_toArray, List.getElem?_cons_succ, List.getElem?_cons_zero]; exact rfl) (fun K hK => ?_) AllReadyH.nil
          go_simp
          refine (hue _ hdw).mono ?_
          rintro e wn ⟨rfl, hown2, hkp2⟩
          have hkp3 := (hkp.trans (KeptBut.ofDrawn hdw _)).trans hkp2
          have ea := hcy _ hkp3
          have eb2 := hcz _ hkp3
          try dsimp only
          refine hK.out _ _ ?h53 (fun hHeld => ?_)
          case h53 => first | exact ⟨‹_›, ‹_›⟩ | assumption | (simp [*, go_sem])
          clear hK K
          try simp only [Act.put, List.setIfInBounds_toArray, List.set_cons_zero, List.set_cons_succ]
          refine wpAnyH_take (i := 11) (v := ?v54) (by simp only [List.getElem?_toArray, List.getElem?_cons_succ, List.getElem?_cons_zero]; exact rfl) (by kernel_rfl) (by kernel_rfl) (by kernel_rfl) (by intro _ _ _ h; exact h) (Or.inl ⟨by rfl, ?y54⟩) hHeld ?_
          case y54 => (intro w hSw; (try dsimp only at hSw); go_simp; try (with_reducible rfl))
          try simp only [Act.put, List.setIfInBounds_toArray, List.set_cons_zero, List.set_cons_succ]
          refine wpAnyH_done (by kernel_rfl) ?_ _
          go_wp2
          go_ret
          exact ⟨ret_bool HE.out.symm, _, HL2.out, hown2, (fun h => by rw [HE.out] at h; cases h), hkp3⟩
        | true =>
          have hux := HUC.out
          rw [hfr, if_pos rfl] at hux
          have HUX := Lib.hid hux
          have HS2 := Lib.hid (HNX.out hfr)
          rw [hfr] at hue
          clear hfr HUC HBD hux HNX
          go_wp2
          refine wp_region_held_drew (S := (fun w' => w'.cell? ⟨eb, eo + (j - 1), none⟩ = some (.int .i64 (y : Int)) ∧ w'.cell? ⟨eb, eo + j, none⟩ = some (.int .i64 (z : Int)))) (by kernel_rfl) ?_ (fun hHeld => ?_)
          · first | exact ⟨‹_›, ‹_›⟩ | assumption | (simp [*, go_sem])
          have hdw : Drawn wi wi.drew := (Drawn.refl _).drew
          generalize wi.drew = wd at hdw hHeld ⊢
          have hHeld2 := hHeld
          obtain ⟨da, db⟩ := hHeld2
          refine wpAnyH_take (i := 0) (v := ?v55) (by simp only [List.getElem?_toArray, List.getElem?_cons_zero]; exact rfl) (by kernel_rfl) (by kernel_rfl) (by kernel_rfl) (by intro _ _ _ h; exact h) (Or.inl ⟨by rfl, ?y55⟩) hHeld ?_
          case y55 => (intro w hSw; (try dsimp only at hSw); go_simp; try (with_reducible rfl))
          try simp only [Act.put, List.setIfInBounds_toArray, List.set_cons_zero, List.set_cons_succ]
          refine wpAnyH_take (i := 1) (v := ?v56) (by simp only [List.getElem?_toArray, List.getElem?_cons_succ, List.getElem?_cons_zero]; exact rfl) (by kernel_rfl) (by kernel_rfl) (by kernel_rfl) (by intro _ _ _ h; exact h) (Or.inl ⟨by rfl, ?y56⟩) hHeld ?_
          case y56 => (intro w hSw; (try dsimp only at hSw); go_simp; try (with_reducible rfl))
          try simp only [Act.put, List.setIfInBounds_toArray, List.set_cons_zero, List.set_cons_succ]
          refine wpAnyH_take (i := 2) (v := ?v57) (by simp only [List.getElem?_toArray, List.getElem?_cons_succ, List.getElem?_cons_zero]; exact rfl) (by kernel_rfl) (by kernel_rfl) (by kernel_rfl) (by intro _ _ _ h; exact h) (Or.inl ⟨by rfl, ?y57⟩) hHeld ?_
          case y57 => (intro w hSw; (try dsimp only at hSw); go_simp; try (with_reducible rfl))
          try simp only [Act.put, List.setIfInBounds_toArray, List.set_cons_zero, List.set_cons_succ]
          refine wpAnyH_take (i := 3) (v := ?v58) (by simp only [List.getElem?_toArray, List.getElem?_cons_succ, List.getElem?_cons_zero]; exact rfl) (by kernel_rfl) (by kernel_rfl) (by kernel_rfl) (by intro _ _ _ h; exact h) (Or.inl ⟨by rfl, ?y58⟩) hHeld ?_
          case y58 => (intro w hSw; (try dsimp only at hSw); go_simp; try (with_reducible rfl))
          try simp only [Act.put, List.setIfInBounds_toArray, List.set_cons_zero, List.set_cons_succ]
          refine wpAnyH_take (i := 4) (v := ?v59) (by simp only [List.getElem?_toArray, List.getElem?_cons_succ, List.getElem?_cons_zero]; exact rfl) (by kernel_rfl) (by kernel_rfl) (by kernel_rfl) (by intro _ _ _ h; exact h) (Or.inl ⟨by rfl, ?y59⟩) hHeld ?_
          case y59 => (intro w hSw; (try dsimp only at hSw); go_simp; try (with_reducible rfl))
          try simp only [Act.put, List.setIfInBounds_toArray, List.set_cons_zero, List.set_cons_succ]
          refine wpAnyH_take (i := 5) (v := ?v60) (by simp only [List.getElem?_toArray, List.getElem?_cons_succ, List.getElem?_cons_zero]; exact rfl) (by kernel_rfl) (by kernel_rfl) (by kernel_rfl) (by intro _ _ _ h; exact h) (Or.inl ⟨by rfl, ?y60⟩) hHeld ?_
          case y60 => (intro w hSw; (try dsimp only at hSw); go_simp; try (with_reducible rfl))
          try simp only [Act.put, List.setIfInBounds_toArray, List.set_cons_zero, List.set_cons_succ]
          refine wpAnyH_take (i := 6) (v := ?v61) (by simp only [List.getElem?_toArray, List.getElem?_cons_succ, List.getElem?_cons_zero]; exact rfl) (by kernel_rfl) (by kernel_rfl) (by kernel_rfl) (by intro _ _ _ h; exact h) (Or.inl ⟨by rfl, ?y61⟩) hHeld ?_
          case y61 => (intro w hSw; (try dsimp only at hSw); go_simp; try (with_reducible rfl))
          try simp only [Act.put, List.setIfInBounds_toArray, List.set_cons_zero, List.set_cons_succ]
          refine wpAnyH_take (i := 7) (v := ?v62) (by simp only [List.getElem?_toArray, List.getElem?_cons_succ, List.getElem?_cons_zero]; exact rfl) (by kernel_rfl) (by kernel_rfl) (by kernel_rfl) (by intro _ _ _ h; exact h) (Or.inl ⟨by rfl, ?y62⟩) hHeld ?_
          case y62 => (intro w hSw; (try dsimp only at hSw); go_simp; try (with_reducible rfl))
          try simp only [Act.put, List.setIfInBounds_toArray, List.set_cons_zero, List.set_cons_succ]
          refine wpAnyH_take (i := 8) (v := ?v63) (by simp only [List.getElem?_toArray, List.getElem?_cons_succ, List.getElem?_cons_zero]; exact rfl) (by kernel_rfl) (by kernel_rfl) (by kernel_rfl) (by intro _ _ _ h; exact h) (Or.inl ⟨by rfl, ?y63⟩) hHeld ?_
          case y63 => (intro w hSw; (try dsimp only at hSw); go_simp; try (with_reducible rfl))
          try simp only [Act.put, List.setIfInBounds_toArray, List.set_cons_zero, List.set_cons_succ]
          refine wpAnyH_take (i := 9) (v := ?v64) (by simp only [List.getElem?_toArray, List.getElem?_cons_succ, List.getElem?_cons_zero]; exact rfl) (by kernel_rfl) (by kernel_rfl) (by kernel_rfl) (by intro _ _ _ h; exact h) (Or.inl ⟨by rfl, ?y64⟩) hHeld ?_
          case y64 => (intro w hSw; (try dsimp only at hSw); go_simp; try (with_reducible rfl))
          try simp only [Act.put, List.setIfInBounds_toArray, List.set_cons_zero, List.set_cons_succ]
          refine wpAnyH_ready (rs := [10]) (by kernel_rfl) (by simp) ?_
          refine AllReadyH.cons (by simp only [List.getElem?_toArray, List.getElem?_cons_succ, List.getElem?_cons_zero]; exact rfl) (fun K hK => ?_) AllReadyH.nil
          go_simp
          refine (hue _ hdw).mono ?_
          rintro e wn ⟨rfl, hown2, hkp2⟩
          have hkp3 := (hkp.trans (KeptBut.ofDrawn hdw _)).trans hkp2
          have ea := hcy _ hkp3
          have eb2 := hcz _ hkp3
          try dsimp only
          refine hK.out _ _ ?h66 (fun hHeld => ?_)
          case h66 => first | exact ⟨‹_›, ‹_›⟩ | assumption | (simp [*, go_sem])
          clear hK K
          try simp only [Act.put, List.setIfInBounds_toArray, List.set_cons_zero, List.set_cons_succ]
          refine wpAnyH_take (i := 11) (v := ?v67) (by simp only [List.getElem?_toArray, List.getElem?_cons_succ, List.getElem?_cons_zero]; exact rfl) (by kernel_rfl) (by kernel_rfl) (by kernel_rfl) (by intro _ _ _ h; exact h) (Or.inl ⟨by rfl, ?y67⟩) hHeld ?_
          case y67 => (intro w hSw; (try dsimp only at hSw); go_simp; try (with_reducible rfl))
          try simp only [Act.put, List.setIfInBounds_toArray, List.set_cons_zero, List.set_cons_succ]
          refine wpAnyH_done (by kernel_rfl) ?_ _
          go_wp2
          go_roundw
          case rel => exact ⟨j + 1, by omega, by omega, by go_num, by rw [show j + 1 - 1 = j - 1 + 1 by omega]; exact HS2, by rw [show j + 1 - 1 = j by omega, ← HUX.out]; exact hown2, hkp3⟩
          case measure => simp [intOf]; omega
      obtain rfl : j = p.length := by omega
      have hlk : p.length - 1 < (stepsN p true).length := by omega
      have hsg := stepsN_get hlk
      rw [if_neg (by omega)] at hsg
      obtain ⟨hu, hx, hbit, hcut⟩ := leftK_bit hg HP.out h2 (fun _ => h3t) hlk hsg (U := U)
      have hcy := fun (W : World) (hk : KeptBut w W lv.ownBlock) => hS0 W hk (p.length - 1) (by omega)
      have hcz := fun (W : World) (hk : KeptBut w W lv.ownBlock) => hS0 W hk 0 (by omega)
      simp only [Nat.add_zero] at hcz
      have ca := hcy _ hkp
      have cb := hcz _ hkp
      have hw6 : (0 : Int) < (p.length : Int) := by omega
      have hw7 : 0 < p.length := by omega
      clear hS0 hec'
      have HNX := Lib.hid (HS.out.next hlk)
      have HBD := Lib.hid (Steps.bad (g := g) (U := U) hlk)
      have hue := fun (W : World) (hd : Drawn wi W) => useEdge_any (u := p.getD (p.length - 1) 0) (x := p.getD 0 0) (w := W) (a := leftK g U p true (p.length - 1)) (v := lv) (B := B) (by rw [leftK_len]; exact hown.drawn hd) (leftK_lt hg _ _ _ _) (by rw [leftK_len]; exact hu) (by rw [leftK_len]; exact hx) (by rw [leftK_len]; exact h16)
      rw [hbit, leftK_len] at hue
      have HUC := Lib.hid (show freeB g U (stepsN p true)[p.length - 1] = true → useC (leftK g U p true (p.length - 1)) (p.getD (p.length - 1) 0) (p.getD 0 0) = leftN g (useU U (stepsN p true)) from fun h => by
        rw [useC, hbit, h, if_pos rfl, hcut, leftK, List.take_of_length_le (by omega)])
      have HFE := Lib.hid (show earB g (natsI p) m U true = freeB g U (stepsN p true)[p.length - 1] by
        rw [HET.out, Bool.true_or, Bool.true_and]
        cases hf : freeB g U (stepsN p true)[p.length - 1] with
        | false => exact HBD.out hf
        | true => exact (HNX.out hf).all (by omega))
      have hucl : (useC (leftK g U p true (p.length - 1)) (p.getD (p.length - 1) 0) (p.getD 0 0)).length = g.length := by
        rw [useC]; split
        · rw [cutN_len, leftK_len]
        · rw [leftK_len]
      generalize useC (leftK g U p true (p.length - 1)) (p.getD (p.length - 1) 0) (p.getD 0 0) = A2 at *
      clear hbit hcut hsg
      generalize p.getD (p.length - 1) 0 = y at *
      generalize p.getD 0 0 = z at *
      have HL2 := Lib.hid hucl
      clear hucl HBD HNX
      generalize freeB g U (stepsN p true)[p.length - 1] = bb at *
      clear hlk
      go_wp2
      refine wp_region_held_drew (S := (fun w' => w'.cell? ⟨eb, eo + (p.length - 1), none⟩ = some (.int .i64 (y : Int)) ∧ w'.cell? ⟨eb, eo, none⟩ = some (.int .i64 (z : Int)))) (by kernel_rfl) ?_ (fun hHeld => ?_)
      · first | exact ⟨‹_›, ‹_›⟩ | assumption | (simp [*, go_sem])
      have hdw : Drawn wi wi.drew := (Drawn.refl _).drew
      generalize wi.drew = wd at hdw hHeld ⊢
      have hHeld2 := hHeld
      obtain ⟨da, db⟩ := hHeld2
      refine wpAnyH_take (i := 0) (v := ?v68) (by simp only [List.getElem?_toArray, List.getElem?_cons_zero]; exact rfl) (by kernel_rfl) (by kernel_rfl) (by kernel_rfl) (by intro _ _ _ h; exact h) (Or.inl ⟨by rfl, ?y68⟩) hHeld ?_
      case y68 => (intro w hSw; (try dsimp only at hSw); go_simp; try (with_reducible rfl))
      try simp only [Act.put, List.setIfInBounds_toArray, List.set_cons_zero, List.set_cons_succ]
      refine wpAnyH_take (i := 1) (v := ?v69) (by simp only [List.getElem?_toArray, List.getElem?_cons_succ, List.getElem?_cons_zero]; exact rfl) (by kernel_rfl) (by kernel_rfl) (by kernel_rfl) (by intro _ _ _ h; exact h) (Or.inl ⟨by rfl, ?y69⟩) hHeld ?_
      case y69 => (intro w hSw; (try dsimp only at hSw); go_simp; try (with_reducible rfl))
      try simp only [Act.put, List.setIfInBounds_toArray, List.set_cons_zero, List.set_cons_succ]
      refine wpAnyH_take (i := 2) (v := ?v70) (by simp only [List.getElem?_toArray, List.getElem?_cons_succ, List.getElem?_cons_zero]; exact rfl) (by kernel_rfl) (by kernel_rfl) (by kernel_rfl) (by intro _ _ _ h; exact h) (Or.inl ⟨by rfl, ?y70⟩) hHeld ?_
      case y70 => (intro w hSw; (try dsimp only at hSw); go_simp; try (with_reducible rfl))
      try simp only [Act.put, List.setIfInBounds_toArray, List.set_cons_zero, List.set_cons_succ]
      refine wpAnyH_take (i := 3) (v := ?v71) (by simp only [List.getElem?_toArray, List.getElem?_cons_succ, List.getElem?_cons_zero]; exact rfl) (by kernel_rfl) (by kernel_rfl) (by kernel_rfl) (by intro _ _ _ h; exact h) (Or.inl ⟨by rfl, ?y71⟩) hHeld ?_
      case y71 => (intro w hSw; (try dsimp only at hSw); go_simp; try (with_reducible rfl))
      try simp only [Act.put, List.setIfInBounds_toArray, List.set_cons_zero, List.set_cons_succ]
      refine wpAnyH_take (i := 4) (v := ?v72) (by simp only [List.getElem?_toArray, List.getElem?_cons_succ, List.getElem?_cons_zero]; exact rfl) (by kernel_rfl) (by kernel_rfl) (by kernel_rfl) (by intro _ _ _ h; exact h) (Or.inl ⟨by rfl, ?y72⟩) hHeld ?_
      case y72 => (intro w hSw; (try dsimp only at hSw); go_simp; try (with_reducible rfl))
      try simp only [Act.put, List.setIfInBounds_toArray, List.set_cons_zero, List.set_cons_succ]
      refine wpAnyH_take (i := 5) (v := ?v73) (by simp only [List.getElem?_toArray, List.getElem?_cons_succ, List.getElem?_cons_zero]; exact rfl) (by kernel_rfl) (by kernel_rfl) (by kernel_rfl) (by intro _ _ _ h; exact h) (Or.inl ⟨by rfl, ?y73⟩) hHeld ?_
      case y73 => (intro w hSw; (try dsimp only at hSw); go_simp; try (with_reducible rfl))
      try simp only [Act.put, List.setIfInBounds_toArray, List.set_cons_zero, List.set_cons_succ]
      refine wpAnyH_take (i := 6) (v := ?v74) (by simp only [List.getElem?_toArray, List.getElem?_cons_succ, List.getElem?_cons_zero]; exact rfl) (by kernel_rfl) (by kernel_rfl) (by kernel_rfl) (by intro _ _ _ h; exact h) (Or.inl ⟨by rfl, ?y74⟩) hHeld ?_
      case y74 => (intro w hSw; (try dsimp only at hSw); go_simp; try (with_reducible rfl))
      try simp only [Act.put, List.setIfInBounds_toArray, List.set_cons_zero, List.set_cons_succ]
      refine wpAnyH_take (i := 7) (v := ?v75) (by simp only [List.getElem?_toArray, List.getElem?_cons_succ, List.getElem?_cons_zero]; exact rfl) (by kernel_rfl) (by kernel_rfl) (by kernel_rfl) (by intro _ _ _ h; exact h) (Or.inl ⟨by rfl, ?y75⟩) hHeld ?_
      case y75 => (intro w hSw; (try dsimp only at hSw); go_simp; try (with_reducible rfl))
      try simp only [Act.put, List.setIfInBounds_toArray, List.set_cons_zero, List.set_cons_succ]
      refine wpAnyH_take (i := 8) (v := ?v76) (by simp only [List.getElem?_toArray, List.getElem?_cons_succ, List.getElem?_cons_zero]; exact rfl) (by kernel_rfl) (by kernel_rfl) (by kernel_rfl) (by intro _ _ _ h; exact h) (Or.inl ⟨by rfl, ?y76⟩) hHeld ?_
      case y76 => (intro w hSw; (try dsimp only at hSw); go_simp; try (with_reducible rfl))
      try simp only [Act.put, List.setIfInBounds_toArray, List.set_cons_zero, List.set_cons_succ]
      refine wpAnyH_take (i := 9) (v := ?v77) (by simp only [List.getElem?_toArray, List.getElem?_cons_succ, List.getElem?_cons_zero]; exact rfl) (by kernel_rfl) (by kernel_rfl) (by kernel_rfl) (by intro _ _ _ h; exact h) (Or.inl ⟨by rfl, ?y77⟩) hHeld ?_
      case y77 => (intro w hSw; (try dsimp only at hSw); go_simp; try (with_reducible rfl))
      try simp only [Act.put, List.setIfInBounds_toArray, List.set_cons_zero, List.set_cons_succ]
      refine wpAnyH_take (i := 10) (v := ?v78) (by simp only [List.getElem?_toArray, List.getElem?_cons_succ, List.getElem?_cons_zero]; exact rfl) (by kernel_rfl) (by kernel_rfl) (by kernel_rfl) (by intro _ _ _ h; exact h) (Or.inl ⟨by rfl, ?y78⟩) hHeld ?_
      case y78 => (intro w hSw; (try dsimp only at hSw); go_simp; try (with_reducible rfl))
      try simp only [Act.put, List.setIfInBounds_toArray, List.set_cons_zero, List.set_cons_succ]
      refine wpAnyH_take (i := 11) (v := ?v79) (by simp only [List.getElem?_toArray, List.getElem?_cons_succ, List.getElem?_cons_zero]; exact rfl) (by kernel_rfl) (by kernel_rfl) (by kernel_rfl) (by intro _ _ _ h; exact h) (Or.inl ⟨by rfl, ?y79⟩) hHeld ?_
      case y79 => (intro w hSw; (try dsimp only at hSw); go_simp; try (with_reducible rfl))
      try simp only [Act.put, List.setIfInBounds_toArray, List.set_cons_zero, List.set_cons_succ]
      refine wpAnyH_ready (rs := [12]) (by kernel_rfl) (by simp) ?_
      refine AllReadyH.cons (by simp only [List.getElem?_toArray, List.getElem?_cons_succ, List.getElem?_cons_zero]; exact rfl) (fun K hK => ?_) AllReadyH.nil
      go_simp
      refine (hue _ hdw).mono ?_
      rintro e wn ⟨rfl, hown2, hkp2⟩
      have hkp3 := (hkp.trans (KeptBut.ofDrawn hdw _)).trans hkp2
      have ea := hcy _ hkp3
      have eb2 := hcz _ hkp3
      try dsimp only
      refine hK.out _ _ ?h81 (fun hHeld => ?_)
      case h81 => first | exact ⟨‹_›, ‹_›⟩ | assumption | (simp [*, go_sem])
      clear hK K
      try simp only [Act.put, List.setIfInBounds_toArray, List.set_cons_zero, List.set_cons_succ]
      refine wpAnyH_take (i := 13) (v := ?v82) (by simp only [List.getElem?_toArray, List.getElem?_cons_succ, List.getElem?_cons_zero]; exact rfl) (by kernel_rfl) (by kernel_rfl) (by kernel_rfl) (by intro _ _ _ h; exact h) (Or.inl ⟨by rfl, ?y82⟩) hHeld ?_
      case y82 => (intro w hSw; (try dsimp only at hSw); go_simp; try (with_reducible rfl))
      try simp only [Act.put, List.setIfInBounds_toArray, List.set_cons_zero, List.set_cons_succ]
      refine wpAnyH_take (i := 14) (v := ?v83) (by simp only [List.getElem?_toArray, List.getElem?_cons_succ, List.getElem?_cons_zero]; exact rfl) (by kernel_rfl) (by kernel_rfl) (by kernel_rfl) (by intro _ _ _ h; exact h) (Or.inl ⟨by rfl, ?y83⟩) hHeld ?_
      case y83 => (intro w hSw; (try dsimp only at hSw); go_simp; try (with_reducible rfl))
      try simp only [Act.put, List.setIfInBounds_toArray, List.set_cons_zero, List.set_cons_succ]
      refine wpAnyH_done (by kernel_rfl) ?_ _
      go_wp2
      go_ret
      exact ⟨ret_bool HFE.out.symm, _, HL2.out, hown2, (fun h => by rw [natsOf_natsI]; exact HUC.out (by rw [← HFE.out]; exact h)), hkp3⟩
end Go.Proofs.YtgkkgagnoeedaaaDoor
