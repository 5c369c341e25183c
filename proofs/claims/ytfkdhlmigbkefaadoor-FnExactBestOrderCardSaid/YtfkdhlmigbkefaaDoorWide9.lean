/- BestOrder of the reference. -/
import Derived.Test.YtfkdhlmigbkefaaDoorWide8
namespace Go.Proofs.YtfkdhlmigbkefaaDoor
open Go.RowKit
noncomputable def pickN (a : List Nat) (n most gone : Nat) : Option Nat := (leftL n gone).find? fun v => decide (costN a n gone v ≤ most)
/-- The least order whose width is at most 'most', from what is not gone. -/
noncomputable def orderF (a : List Nat) (n most : Nat) : Nat → Nat → List Nat
  | 0, _ => []
  | f + 1, gone => match pickN a n most gone with
    | none => []
    | some v => v :: orderF a n most f (gone ||| bit v)
noncomputable def orderN (a : List Nat) (n : Nat) : List Nat := orderF a n (widthN a n 0) (leftL n 0).length 0
noncomputable def bestL (g : List (List Int)) : List Int := if wideB g = true then natsI (orderN (netsL g) g.length) else []
theorem orderF_len (a : List Nat) (n most : Nat) : ∀ (f gone : Nat), (orderF a n most f gone).length ≤ f
  | 0, _ => by simp [orderF]
  | f + 1, gone => by
    unfold orderF
    cases pickN a n most gone with
    | none => simp
    | some v => have := orderF_len a n most f (gone ||| bit v); simp; omega
theorem leftL_split {gone k : Nat} (hg : gone.testBit k = false) : ∀ {n : Nat}, k < n → ∃ bs, leftL n gone = leftL k gone ++ k :: bs
  | 0, h => by omega
  | n + 1, h => by
    by_cases e : k = n
    · subst e
      exact ⟨[], by rw [leftL_succ, hg]; simp⟩
    · obtain ⟨bs, hb⟩ := leftL_split (n := n) hg (by omega)
      exact ⟨bs ++ if gone.testBit n = true then [] else [n], by rw [leftL_succ, hb, List.append_assoc]; rfl⟩
/-- None of the first k serves. -/
def NoneTo (a : List Nat) (n most gone k : Nat) : Prop := ∀ u, u < k → gone.testBit u = false → ¬ costN a n gone u ≤ most
theorem NoneTo.zero (a : List Nat) (n most gone : Nat) : NoneTo a n most gone 0 := fun u h => by omega
theorem NoneTo.next {a : List Nat} {n most gone k : Nat} (h : NoneTo a n most gone k) (hk : gone.testBit k = false → ¬ costN a n gone k ≤ most) : NoneTo a n most gone (k + 1) := fun u hu hg => by
  by_cases e : u = k
  · subst e; exact hk hg
  · exact h u (by omega) hg
theorem NoneTo.pick {a : List Nat} {n most gone k : Nat} (h : NoneTo a n most gone k) (hk : k < n) (hg : gone.testBit k = false) (hc : costN a n gone k ≤ most) : pickN a n most gone = some k := by
  obtain ⟨bs, hb⟩ := leftL_split hg hk
  unfold pickN
  rw [hb, List.find?_eq_some_iff_append]
  refine ⟨by simpa using hc, _, _, rfl, fun u hu => ?_⟩
  obtain ⟨h1, h2⟩ := mem_leftL.1 hu
  simpa using h u h1 h2
theorem foldMin_gt {m : Nat} : ∀ {l : List Nat} {s : Nat}, (∀ x ∈ l, m < x) → m < s → m < l.foldl min s
  | [], s, _, h => by simpa using h
  | x :: l, s, hl, h => by
    rw [List.foldl_cons]
    have := hl x (by simp)
    exact foldMin_gt (fun y hy => hl y (by simp [hy])) (by omega)
theorem NoneTo.absurd_ {a : List Nat} {n most gone : Nat} (hI : WideI a n) (h : NoneTo a n most gone n) (hw : widthN a n gone ≤ most) (hl : leftL n gone ≠ []) : False := by
  have hall : ∀ x ∈ (leftL n gone).map (costN a n gone), most < x := fun x hx => by
    obtain ⟨u, hu, rfl⟩ := List.mem_map.1 hx
    obtain ⟨h1, h2⟩ := mem_leftL.1 hu
    have := h u h1 h2; omega
  by_cases hm : most < 16
  · have := foldMin_gt hall hm
    rw [widthN_step hl] at hw; omega
  · cases hL : leftL n gone with
    | nil => exact hl hL
    | cons u l =>
      have hu : u ∈ leftL n gone := by rw [hL]; simp
      obtain ⟨h1, h2⟩ := mem_leftL.1 hu
      have h3 := h u h1 h2
      have h4 := costN_le (gone := gone) (v := u) hI
      omega
/-- Between two picks: out are the L. -/
structure BestI (a : List Nat) (n most gone : Nat) (L : List Nat) : Prop where
  lt : gone < 2 ^ n
  out : L ++ orderF a n most (leftL n gone).length gone = orderN a n
  len : L.length + (leftL n gone).length = n
  wid : widthN a n gone ≤ most
theorem BestI.start (a : List Nat) (n : Nat) : BestI a n (widthN a n 0) 0 [] := ⟨Nat.two_pow_pos n, rfl, by
    have h : leftL n 0 = List.range n := by unfold leftL; exact List.filter_eq_self.2 fun v _ => by simp
    rw [h]; simp, Nat.le_refl _⟩
theorem BestI.next {a : List Nat} {n most gone k : Nat} {L : List Nat} (hI : WideI a n) (h : BestI a n most gone L) (hN : NoneTo a n most gone k) (hk : k < n) (hg : gone.testBit k = false) (hc : costN a n gone k ≤ most) : BestI a n most (gone ||| bit k) (L ++ [k]) := by
  have hn := leftL_next hk hg
  refine ⟨hI.or_lt h.lt hk, ?_, by have := h.len; rw [List.length_append, List.length_singleton]; omega, by unfold costN at hc; omega⟩
  rw [← h.out, ← hn, orderF, hN.pick hk hg hc, List.append_assoc]; rfl
theorem BestI.end_ {a : List Nat} {n most gone : Nat} {L : List Nat} (h : BestI a n most gone L) (hl : ¬ L.length < n) : L = orderN a n := by
  have h1 := h.len
  have h2 : (leftL n gone).length = 0 := by omega
  rw [← h.out, h2, orderF, List.append_nil]
theorem BestI.left {a : List Nat} {n most gone : Nat} {L : List Nat} (h : BestI a n most gone L) (hl : L.length < n) : leftL n gone ≠ [] := fun e => by
  have := h.len; rw [e] at this; simp at this; omega
set_option maxRecDepth 100000 in
set_option maxHeartbeats 8000000 in
theorem specBestOrder_any {S : Nat → Prop} {v : Value} {g : List (List Int)} {w : World} (hv : SlR S w v g) :
    Calls Tryd.prog 19 #[.agg #[v]] w fun e w' => ∃ u0, e = .returned u0 ∧ SlI (fun b => b < w'.heap.size) w' .i64 u0 (bestL g) ∧ Below w.heap.size w w' := by
  have hq0 : Below w.heap.size w ((w.alloc (.cells #[v] 27)).alloc (.cells #[] 2)) := ((Below.refl _ _).alloc (Nat.le_refl _) _).alloc (by simp) _
  have ho0 : Own ((w.alloc (.cells #[v] 27)).alloc (.cells #[] 2)) (w.heap.size + 1) 2 1 (.slice (some ⟨w.heap.size + 1, 0, none⟩) 0 0) 0 [] := by
    have := World.ownsRow_lit (base := w.heap.size + 1) (e := 2) (size := 1) (w.alloc (.cells #[v] 27)) #[] 0 (by simp) (by unfold maxLen; omega) rfl
    simpa [Own] using this
  obtain ⟨va, vc, rfl⟩ := hv.slice
  have hwi := l10Wide_any (hv.below hq0 (Nat.le_refl _))
  by_cases hw : wideB g = true
  case neg =>
    have hw' : wideB g = false := by simpa using hw
    rw [hw'] at hwi
    have HE := Lib.hid (show bestL g = [] by simp [bestL, hw'])
    clear hw hw'
    go_enter Tryd.func19, Tryd.ntmps19
    go_wp2_with fail
    refine hwi.mono ?_
    rintro e w1 ⟨rfl, hb1⟩
    go_wp2
    go_ret
    exact ⟨_, rfl, by rw [HE.out]; exact SlI.nilW _ _ _ _, hq0.trans (hb1.mono hq0.size)⟩
  rw [hw] at hwi
  have hgw : gokB g = true ∧ g.length ≤ 10 := by simpa [wideB] using hw
  have hg := gokB_iff.1 hgw.1
  have h10 := hgw.2
  have h0 : 0 < g.length := by have := hg.lo; omega
  have HE := Lib.hid (show bestL g = natsI (orderN (netsL g) g.length) by simp [bestL, hw])
  have HI := Lib.hid (WideI.of hg)
  have hsz := fun (W : World) (hb : Below w.heap.size w W) => wSize_any (hv.below hb (Nat.le_refl _))
  have hvl := hv.lowW h0
  have hmk := run_make_row' (P := Tryd.prog) 63 4 (.bool false) 1 elMarks.ht elMarks.hi rfl .i64 .i64 g.length (by omega) (by omega)
  obtain ⟨N, hN⟩ : ∃ N, bit g.length = N := ⟨_, rfl⟩
  have HN := Lib.hid hN
  have hbeh := fun (W : World) (hb : Below w.heap.size w W) (gb gone k : Nat) (h1 : Row W gb g.length (markV gone)) (h2 : gone < 2 ^ g.length) (h3 : k < g.length) => l10Behind_any hg (hv.below hb (Nat.le_refl _)) h1 h2 h3
  have HBEH := Lib.hid hbeh
  have hfrom := fun (W : World) (hb : Below w.heap.size w W) (gb kb gone : Nat) (K : Nat → Int) (hgb : w.heap.size < gb) (hkb : w.heap.size < kb) (h2 : gone < 2 ^ g.length) (hne : gb ≠ kb) (h1 : Row W gb g.length (markV gone)) (h3 : Row W kb N (tabV K)) (h4 : Known (netsL g) g.length K) =>
    l10From_any hg h10 HN.out _ (.slice va g.length vc) gone gb kb K W rfl h2 hne ((hvl.below hb (Nat.le_refl _)).weak (fun b (hb2 : b < w.heap.size) => ⟨by omega, by omega, Nat.lt_of_lt_of_le hb2 hb.size⟩)) h1 h3 h4
  have HFROM := Lib.hid hfrom
  clear hw hgw hN hbeh hfrom
  go_enter Tryd.func19, Tryd.ntmps19
  go_wp2_with fail
  refine hwi.mono ?_
  rintro e w1 ⟨rfl, hb1⟩
  have hq1 := hq0.trans (hb1.mono hq0.size)
  have cg1 : w1.cell? ⟨w.heap.size, 0, none⟩ = some (.slice va g.length vc) := (hb1.cell (p := ⟨w.heap.size, 0, none⟩) (by simp <;> omega)).trans (by simp [go_sem])
  have ho1 := ho0.below hb1 (Nat.le_refl _)
  clear hwi hq0 hb1 ho0
  go_wp2_with fail
  refine (l10Table_any (hv.below hq1 (Nat.le_refl _)) HN.out h10).mono ?_
  rintro e w2 ⟨kb, rfl, hkb, ht2, hb2⟩
  have hkb1 : w.heap.size + 1 < kb := Nat.lt_of_lt_of_le (ho1.lt _ rfl).2 hkb
  have hkl := ht2.lt (by rw [← HN.out]; exact Nat.two_pow_pos _)
  have hq2 := hq1.trans (hb2.mono hq1.size)
  have cg2 := (hb2.cell (cell_lt cg1)).trans cg1
  have ho2 := ho1.below hb2 (Nat.le_refl _)
  clear hq1 cg1 hb2 ho1 hkb
  go_wp2_with fail
  refine (hsz _ hq2).mono ?_
  rintro e w3 ⟨rfl, hb3⟩
  have hq3 := hq2.trans (hb3.mono hq2.size)
  have cg3 := (hb3.cell (cell_lt cg2)).trans cg2
  have ho3 := ho2.below hb3 (Nat.le_refl _)
  have ht3 := ht2.below hb3 (Nat.le_refl _)
  have hkl3 : kb < w3.heap.size := Nat.lt_of_lt_of_le hkl hb3.size
  have hb4 : Below w3.heap.size w3 (w3.alloc (.cells (madeCells #[Value.bool false] g.length) 4)) := (Below.refl _ _).alloc (Nat.le_refl _) _
  have hq4 := hq3.trans (hb4.mono hq3.size)
  have hm4 : Row (w3.alloc (.cells (madeCells #[Value.bool false] g.length) 4)) w3.heap.size g.length (markV 0) :=
    Row.ofOwn (Own.made w3 w3.heap.size 4 (.bool false) g.length (Nat.le_refl _) (by omega)) (fun i hi => by simp [markV])
  have ho4 := ho3.alloc (.cells (madeCells #[Value.bool false] g.length) 4)
  have ht4 := ht3.below hb4 (Nat.le_refl _)
  have cg4 := (hb4.cell (cell_lt cg3)).trans cg3
  have hfr := HFROM.out _ hq4 w3.heap.size kb 0 _ (by omega) (by omega) (Nat.two_pow_pos _) (by omega) hm4 ht4 (fun c _ => .inl rfl)
  have hgk : w3.heap.size ≠ kb := by omega
  have hgb1 : w.heap.size + 1 < w3.heap.size := by omega
  go_wp2_with fail
  clear hq2 cg2 hb3 ho2 ht2 hkl hq3 cg3 ho3 ht3 hb4 hsz hkl3
  generalize w3.heap.size = gb at *
  generalize w3.alloc (.cells (madeCells #[Value.bool false] g.length) 4) = w4 at *
  refine hfr.mono ?_
  rintro e w5 ⟨rfl, hm5, ⟨K5, ht5, hK5⟩, hk5⟩
  have HK5 := Lib.hid hK5
  have hq5 := hk5.below hq4 hq4.size (by omega) (by omega)
  have cg5 := hk5.cell cg4 (by omega) (by omega)
  have ho5 := ho4.keep (w' := w5) (fun b hb => hk5.block b (ho4.lt b hb).2 (by simp [Value.ownBlock] at hb; omega) (by simp [Value.ownBlock] at hb; omega))
  have HB0 := Lib.hid (BestI.start (netsL g) g.length)
  have hm16 := widthN_le (netsL g) g.length 0
  generalize widthN (netsL g) g.length 0 = most at *
  clear hq4 hm4 ho4 ht4 cg4 hfr hk5 hK5 hmk
  go_wp2
  go_loopw [3] (fun o wr => ∃ (L : List Nat) (gone : Nat) (K : Nat → Int), Own wr (w.heap.size + 1) 2 1 o L.length ((natsI L).map (.int .i64)) ∧ Row wr gb g.length (markV gone) ∧ Row wr kb N (tabV K) ∧ RowKit.Hid (Known (netsL g) g.length K) ∧ RowKit.Hid (BestI (netsL g) g.length most gone L) ∧ (∀ b, o.ownBlock = some b → b ≠ gb ∧ b ≠ kb) ∧ Below w.heap.size w wr ∧ wr.cell? ⟨w.heap.size, 0, none⟩ = some (.slice va g.length vc)) (fun o _ => 17 - lenV o)
  case atStart => exact ⟨[], 0, K5, ho5, hm5, ht5, HK5, HB0, (fun b hb => by simp [Value.ownBlock] at hb; omega), hq5, cg5⟩
  case round =>
    clear ho5 hm5 ht5 hq5 cg5 HK5 HB0
    obtain ⟨L, gone, K, ho, hm, ht, HK, HB, hbo, hq, cg⟩ := hrel
    have hsz := fun (W : World) (hb : Below w.heap.size w W) => wSize_any (hv.below hb (Nat.le_refl _))
    have hLn : L.length ≤ g.length := by have := HB.out.len; omega
    obtain ⟨oa, oc, rfl⟩ := ho.isSlice
    by_cases hlt : L.length < g.length
    case neg =>
      have HEND := Lib.hid (HB.out.end_ hlt)
      have hLe : L.length = g.length := by omega
      have hoi := Own.ints (xs := natsI L) ho (by omega)
      have hsz1 := hsz _ hq
      have hol := fun b hb => (ho.lt b hb).2
      rw [hLe]
      rw [hLe] at hoi
      clear hsz hlt hLn ho hbo
      go_wp2_with fail
      refine hsz1.mono ?_
      rintro e w6 ⟨rfl, hb6⟩
      have hoi6 := hoi.below hb6 (Nat.le_refl _)
      go_wp2
      go_ret
      refine ⟨_, rfl, ?_, hq.trans (hb6.mono hq.size)⟩
      rw [HE.out, ← HEND.out]
      exact hoi6.weak fun b hb => by
        have h2 := hol b ((show Value.ownBlock (.slice oa L.length oc) = Value.ownBlock (.slice oa g.length oc) by cases oa <;> rfl).trans hb)
        exact Nat.lt_of_lt_of_le h2 hb6.size
    have HLT := Lib.hid hlt
    have hsz1 := hsz _ hq
    go_wp2_with fail
    refine hsz1.mono ?_
    rintro e w6 ⟨rfl, hb6⟩
    have hq6 := hq.trans (hb6.mono hq.size)
    have ho6 := ho.below hb6 (Nat.le_refl _)
    have hm6 := hm.below hb6 (Nat.le_refl _)
    have ht6 := ht.below hb6 (Nat.le_refl _)
    have cg6 := (hb6.cell (cell_lt cg)).trans cg
    clear hsz1 hq ho hm ht cg hb6
    go_wp2
    go_loopw [3, 7] (fun o i wr => ∃ (k : Nat) (K : Nat → Int), k ≤ g.length ∧ i = .int .i64 k ∧ o = .slice oa L.length oc ∧ Own wr (w.heap.size + 1) 2 1 (.slice oa L.length oc) L.length ((natsI L).map (.int .i64)) ∧ Row wr gb g.length (markV gone) ∧ Row wr kb N (tabV K) ∧ RowKit.Hid (Known (netsL g) g.length K) ∧ RowKit.Hid (NoneTo (netsL g) g.length most gone k) ∧ Below w.heap.size w wr ∧ wr.cell? ⟨w.heap.size, 0, none⟩ = some (.slice va g.length vc)) (fun _ i _ => g.length - (intOf i).toNat)
    case atStart => exact ⟨0, K, Nat.zero_le _, rfl, rfl, ho6, hm6, ht6, HK, Lib.hid (NoneTo.zero _ _ _ _), hq6, cg6⟩
    case round =>
      clear ho6 hm6 ht6 hq6 cg6 HK
      obtain ⟨wi, rfl⟩ : ∃ wi : World, wi = wr := ⟨_, rfl⟩
      obtain ⟨k, K, hk, rfl, rfl, ho, hm, ht, HK, HNT, hq, cg⟩ := hrel
      by_cases hkl : k < g.length
      case neg =>
        obtain rfl : k = g.length := by omega
        exact (HNT.out.absurd_ HI.out HB.out.wid (HB.out.left HLT.out)).elim
      have hsz1 := hsz _ hq
      have cm := (hm k hkl).1
      unfold markV at cm
      cases hgk2 : gone.testBit k
      case true =>
        rw [hgk2] at cm
        have HN2 := Lib.hid (HNT.out.next (k := k) (fun h => by rw [hgk2] at h; cases h))
        clear hgk2
        go_wp2_with fail
        refine hsz1.mono ?_
        rintro e w7 ⟨rfl, hb7⟩
        have cm7 := (hb7.cell (p := ⟨gb, k, none⟩) (cell_lt cm)).trans cm
        clear hsz1
        go_wp2
        go_roundw
        case rel => exact ⟨k + 1, K, by omega, by go_num, rfl, ho.below hb7 (Nat.le_refl _), hm.below hb7 (Nat.le_refl _), ht.below hb7 (Nat.le_refl _), HK, HN2, hq.trans (hb7.mono hq.size), (hb7.cell (cell_lt cg)).trans cg⟩
        case measure => simp [intOf]; omega
      rw [hgk2] at cm
      have HG := Lib.hid hgk2
      have hbh := HBEH.out
      have hcost : costN (netsL g) g.length gone k = max (popN (behindN (netsL g) gone k)) (widthN (netsL g) g.length (gone ||| bit k)) := rfl
      have HC := Lib.hid hcost
      have hp16 : popN (behindN (netsL g) gone k) ≤ 16 := by have := costN_le (gone := gone) (v := k) HI.out; rw [hcost] at this; omega
      have hq16 := widthN_le (netsL g) g.length (gone ||| bit k)
      clear hgk2 hbh hcost
      go_wp2_with fail
      refine hsz1.mono ?_
      rintro e w7 ⟨rfl, hb7⟩
      have hq7 := hq.trans (hb7.mono hq.size)
      have ho7 := ho.below hb7 (Nat.le_refl _)
      have hm7 := hm.below hb7 (Nat.le_refl _)
      have ht7 := ht.below hb7 (Nat.le_refl _)
      have cg7 := (hb7.cell (cell_lt cg)).trans cg
      have cm7 := (hb7.cell (p := ⟨gb, k, none⟩) (cell_lt cm)).trans cm
      have hbe7 := HBEH.out _ hq7 gb gone k hm7 HB.out.lt hkl
      clear hsz1 hq ho hm ht cg cm hb7
      go_wp2_with fail
      refine hbe7.mono ?_
      rintro e w8 ⟨ba, bc, rfl, hb8⟩
      have hq8 := hq7.trans (hb8.mono hq7.size)
      have ho8 := ho7.below hb8 (Nat.le_refl _)
      have hm8 := hm7.below hb8 (Nat.le_refl _)
      have ht8 := ht7.below hb8 (Nat.le_refl _)
      have cg8 := (hb8.cell (cell_lt cg7)).trans cg7
      clear hbe7 hq7 ho7 hm7 ht7 cg7 cm7 hb8
      by_cases hpm : popN (behindN (netsL g) gone k) ≤ most
      case neg =>
        have HN2 := Lib.hid (HNT.out.next (k := k) (fun _ h => hpm (by rw [HC.out] at h; omega)))
        generalize popN (behindN (netsL g) gone k) = p at *
        go_wp2
        go_roundw
        case rel => exact ⟨k + 1, K, by omega, by go_num, rfl, ho8, hm8, ht8, HK, HN2, hq8, cg8⟩
        case measure => simp [intOf]; omega
      obtain ⟨cm8, fm8⟩ := hm8 k hkl
      unfold markV at cm8
      have hm9 := mark_set hm8 hkl
      have ht9 := ht8.other (b' := gb) (j := k) (v := .bool true) (fun e => hgk e.symm)
      have hs9 := Kept2.set (w := w8) (x := gb) (y := kb) (z := gb) (j := k) (v := .bool true) (.inl rfl)
      have hq9 := hq8.setCell (p := ⟨gb, k, none⟩) (by simp; omega) (.bool true)
      have cg9 := hs9.cell cg8 (by omega) (by omega)
      have ho9 := ho8.keep (w' := w8.setCell ⟨gb, k, none⟩ (.bool true)) (fun b hb => hs9.block b (ho8.lt b hb).2 (hbo b hb).1 (hbo b hb).2)
      have hlt9 := HI.out.or_lt HB.out.lt hkl
      have hfr9 := HFROM.out _ hq9 gb kb (gone ||| bit k) K (by omega) (by omega) hlt9 hgk hm9 ht9 HK.out
      have HPM := Lib.hid hpm
      have HNX := Lib.hid (fun hc => HB.out.next HI.out HNT.out hkl HG.out hc)
      have HUN := Lib.hid (fun (W : World) (h : Row W gb g.length (markV (gone ||| bit k))) => mark_unset h hkl HG.out)
      generalize popN (behindN (netsL g) gone k) = p at *
      generalize widthN (netsL g) g.length (gone ||| bit k) = q at *
      clear hlt9 ho8 ht8 hq8 cg8 hs9
      go_wp2_with fail
      refine hfr9.mono ?_
      rintro e w10 ⟨rfl, hm10, ⟨K10, ht10, hK10⟩, hk10⟩
      have HK10 := Lib.hid hK10
      have hq10 := hk10.below hq9 hq9.size (by omega) (by omega)
      have cg10 := hk10.cell cg9 (by omega) (by omega)
      have ho10 := ho9.keep (w' := w10) (fun b hb => hk10.block b (ho9.lt b hb).2 (hbo b hb).1 (hbo b hb).2)
      clear hfr9 hK10 HK hm8 cm8 fm8 hm9 ht9 hq9 cg9 ho9 hpm
      by_cases hqm : q ≤ most
      case pos =>
        have HB2 := Lib.hid (HNX.out (by rw [HC.out]; have := HPM.out; omega))
        have hB10 : w.heap.size + 1 ≤ w10.heap.size := cell_lt cg10
        clear HPM HC
        go_wp2_with (at_builtin; refine wpList_append1b elI64 rfl _ _ rfl ho10 rfl rfl rfl rfl (by omega) hB10 ?_; intro o' w11 ho11 hkept hmv)
        have hbo11 : ∀ b, o'.ownBlock = some b → b ≠ gb ∧ b ≠ kb := fun b hb => by
          rcases hmv with h | h
          · rw [h] at hb; exact hbo b hb
          · rw [h] at hb
            have h1 := hm10.lt h0
            have h2 := ht10.lt (by rw [← HN.out]; exact Nat.two_pow_pos _)
            simp at hb; omega
        have hm11 := hm10.keep (w' := w11) (hkept.2.2.2.2 gb (hm10.lt h0) (fun e => (hbo gb e.symm).1 rfl))
        have hkl10 := ht10.lt (by rw [← HN.out]; exact Nat.two_pow_pos _)
        have ht11 := ht10.keep (w' := w11) (hkept.2.2.2.2 kb hkl10 (fun e => (hbo kb e.symm).2 rfl))
        have hq11 := hkept.below hq10 hq10.size (fun b h => by have := (ho10.lt b h).1; omega)
        have cg11 : w11.cell? ⟨w.heap.size, 0, none⟩ = some (.slice va g.length vc) := (World.cell?_of_block (a := ⟨w.heap.size, 0, none⟩) (hkept.2.2.2.2 w.heap.size (cell_lt cg10) (fun e => by have := (ho10.lt _ e.symm).1; omega))).trans cg10
        have hlen11 : lenV o' = L.length + 1 := by obtain ⟨a, c, rfl⟩ := ho11.isSlice; rfl
        go_roundw
        case rel => exact ⟨L ++ [k], gone ||| bit k, K10, by simpa [natsI] using ho11, hm11, ht11, HK10, HB2, hbo11, hq11, cg11⟩
        case measure => rw [hlen11]; simp only [lenV]; have := HLT.out; omega
      have HN2 := Lib.hid (HNT.out.next (k := k) (fun _ h => hqm (by rw [HC.out] at h; omega)))
      have hm11 := HUN.out _ hm10
      obtain ⟨cm10, fm10⟩ := hm10 k hkl
      unfold markV at cm10
      have ht11 := ht10.other (b' := gb) (j := k) (v := .bool false) (fun e => hgk e.symm)
      have hs11 := Kept2.set (w := w10) (x := gb) (y := kb) (z := gb) (j := k) (v := .bool false) (.inl rfl)
      have hq11 := hq10.setCell (p := ⟨gb, k, none⟩) (by simp; omega) (.bool false)
      have cg11 := hs11.cell cg10 (by omega) (by omega)
      have ho11 := ho10.keep (w' := w10.setCell ⟨gb, k, none⟩ (.bool false)) (fun b hb => hs11.block b (ho10.lt b hb).2 (hbo b hb).1 (hbo b hb).2)
      clear HPM HC
      go_wp2
      go_roundw
      case rel => exact ⟨k + 1, K10, by omega, by go_num, rfl, ho11, hm11, ht11, HK10, HN2, hq11, cg11⟩
      case measure => simp [intOf]; omega
end Go.Proofs.YtfkdhlmigbkefaaDoor
