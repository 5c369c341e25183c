/- Trees of parts: the leaves of a node, by the reference. -/
import Derived.Test.YtfccpencgengaaaDoorPartW
import Derived.Test.YtfccpencgengaaaDoorInto2
namespace Go.Proofs.YtfccpencgengaaaDoor
open Go.RowKit
theorem fold_take {t : List PNode} {f : Nat} {kids : List Int} {k : Nat} (hk : k < kids.length) : (kids.take (k + 1)).foldl (fun m k => m ||| mskF f t k.toNat) 0 = (kids.take k).foldl (fun m k => m ||| mskF f t k.toNat) 0 ||| mskF f t kids[k].toNat := by
  rw [List.take_succ_eq_append_getElem hk, List.foldl_append]; rfl
/-- The set of the first numbers of another one. -/
def preB (m k : Nat) : Nat := maskL ((bitsI m).take k)
theorem preB_succ {m k : Nat} (hk : k < (bitsI m).length) : preB m (k + 1) = preB m k ||| bit ((bitsI m)[k]).toNat := maskL_take hk
theorem preB_all {m : Nat} (hm : m < 4294967296) : preB m (bitsI m).length = m := by
  unfold preB
  rw [List.take_length]
  apply nat_ext
  intro i
  rw [testBit_maskL (fun v hv => ((mem_bitsI hm).1 hv).1)]
  by_cases h : m.testBit i = true
  · rw [h]; simp; exact (mem_bitsI hm).2 ⟨by omega, by simpa using h⟩
  · have h2 : m.testBit i = false := by simpa using h
    rw [h2]; simp; intro hn; exact h (by simpa using ((mem_bitsI hm).1 hn).2)
theorem preB_lt {m : Nat} (k : Nat) (hm : m < 4294967296) : preB m k < 4294967296 := by
  unfold preB
  exact maskL_lt32 fun x hx => by
    have h1 := List.mem_of_mem_take hx
    have h2 := (mem_bitsI hm).1 h1
    simp only [bitsI, List.mem_map] at h1
    obtain ⟨i, hi, rfl⟩ := h1
    have := bitsN_lt hi; omega
theorem bitsI_range {m k : Nat} (hk : k < (bitsI m).length) : ∃ x : Nat, (bitsI m)[k] = x ∧ x < 32 := by
  have h : (bitsI m)[k] ∈ bitsI m := List.getElem_mem _
  simp only [bitsI, List.mem_map] at h
  obtain ⟨i, hi, he⟩ := h
  exact ⟨i, he.symm, bitsN_lt hi⟩
theorem mskF_lt {t : List PNode} : ∀ (f i : Nat), i < t.length → (∀ j, j ≤ i → Down t j) → mskF f t i < 4294967296
  | 0, i, _, _ => by simp [mskF]
  | f + 1, i, hi, hd => by
    by_cases hk : (nd t i).kind = 1
    · rw [mskF, if_pos hk]; exact bit_lt (by have := (hd i (Nat.le_refl _)).1 hk; omega)
    · rw [mskF, if_neg hk]
      have hkids := ((hd i (Nat.le_refl _)).2 hk).2
      have : ∀ (l : List Int) (m : Nat), m < 4294967296 → (∀ k ∈ l, 0 ≤ k ∧ k < i) → l.foldl (fun m k => m ||| mskF f t k.toNat) m < 4294967296 := by
        intro l
        induction l with
        | nil => intro m hm _; exact hm
        | cons a l ih =>
          intro m hm hl
          rw [List.foldl_cons]
          have ha := hl a (by simp)
          exact ih _ (Nat.or_lt_two_pow (n := 32) hm (mskF_lt f a.toNat (by omega) (fun j hj => hd j (by omega)))) (fun k hk => hl k (by simp [hk]))
      exact this _ 0 (by omega) hkids
set_option maxHeartbeats 4000000 in
theorem l16Has_any {S : Nat → Prop} {v : Value} {t : List PNode} (hn : t.length ≤ 1048576) : ∀ (f i : Nat) (w : World), SlP S w v t → i < f → i < t.length → (∀ j, j ≤ i → Down t j) →
    Calls Tryd.prog 118 #[v, .int .i64 (i : Int)] w fun e w' => ∃ u, e = .returned u ∧ OwnB w' w.heap.size 2 u (mskF f t i) ∧ Below w.heap.size w w' := by
  intro f
  induction f with
  | zero => intro i w _ h; omega
  | succ f ih =>
    intro i w hv hif hi hd
    obtain ⟨b, off, cap, g, hve, hc⟩ := hv.at_
    have hve := hve (by omega)
    subst hve
    have hr0 := (hc i hi).2.2.2
    have hnd : nd t i = t[i] := nd_get hi
    have hdi := hd i (Nat.le_refl _)
    unfold Down at hdi
    have hwf : mskF (f + 1) t i = if t[i].kind = 1 then bit t[i].vertex.toNat else t[i].kids.foldl (fun m k => m ||| mskF f t k.toNat) 0 := by rw [mskF, hnd]
    rw [hnd] at hdi
    clear hnd
    obtain ⟨ka, kc, hge⟩ := hr0.slice
    have hrl := hr0.len
    have hcells : ∀ w' : World, Below w.heap.size w w' → w'.cell? ⟨b, off + i * 3, none⟩ = some (.int .i64 t[i].kind) ∧ w'.cell? ⟨b, off + i * 3 + 1, none⟩ = some (.int .i64 t[i].vertex) ∧ w'.cell? ⟨b, off + i * 3 + 2, none⟩ = some (.slice ka t[i].kids.length kc) ∧ SlI S w' .i64 (.slice ka t[i].kids.length kc) t[i].kids := by
      intro w' hb
      obtain ⟨h1, h2, h3, h4⟩ := hc i hi
      rw [hge] at h3 h4
      exact ⟨(hb.cell (cell_lt h1)).trans h1, (hb.cell (cell_lt h2)).trans h2, (hb.cell (cell_lt h3)).trans h3, h4.below hb (Nat.le_refl _)⟩
    clear hc hr0 hge
    generalize hp : t[i] = p at *
    clear hp
    obtain ⟨kind, vertex, kids⟩ := p
    simp only at hcells hwf hrl hdi
    have HW := Lib.hid hwf; clear hwf
    have HC := Lib.hid hcells; clear hcells
    by_cases hk : kind = 1
    · have hkb : (kind == 1) = true := by simp [hk]
      have hvx := hdi.1 hk
      obtain ⟨x, rfl⟩ := Int.eq_ofNat_of_zero_le hvx.1
      have hw1 := HW.out
      rw [if_pos hk, Int.toNat_natCast] at hw1
      have HW1 := Lib.hid hw1
      clear hw1 hdi hk
      obtain ⟨c1, c2, c3, c4⟩ := HC.out w (Below.refl _ _)
      go_enter Tryd.func118, Tryd.ntmps118
      go_wp2
      go_ret
      refine ⟨_, rfl, ?_, (Below.refl _ _).alloc (Nat.le_refl _) _⟩
      rw [HW1.out]
      have e1 : bitsI (bit x) = [(x : Int)] := by
        have := bitsI_or (m := 0) (x := x) (by omega) (by omega) (k := 0) (by simp) (by simp [bitsI, bitsN_zero])
        rw [Nat.zero_or] at this
        rw [← this]; simp [intoL, bitsI, bitsN_zero]
      unfold OwnB
      rw [e1]
      exact World.ownsRow_lit (base := w.heap.size) (e := 2) (size := 1) w #[.int .i64 x] 1 (Nat.le_refl _) (by unfold maxLen; omega) rfl
    · have hkb : (kind == 1) = false := by simpa using hk
      have hkid := (hdi.2 hk).2
      have hw1 := HW.out
      rw [if_neg hk] at hw1
      have HW1 := Lib.hid hw1
      clear hw1 hdi hk HW
      have hfold : ∀ k, (kids.take k).foldl (fun m k => m ||| mskF f t k.toNat) 0 < 4294967296 := by
        intro k
        have : ∀ (l : List Int) (m : Nat), m < 4294967296 → (∀ k ∈ l, 0 ≤ k ∧ k < i) → l.foldl (fun m k => m ||| mskF f t k.toNat) m < 4294967296 := by
          intro l
          induction l with
          | nil => intro m hm _; exact hm
          | cons a l ih =>
            intro m hm hl
            rw [List.foldl_cons]
            have ha := hl a (by simp)
            exact ih _ (Nat.or_lt_two_pow (n := 32) hm (mskF_lt f a.toNat (by omega) (fun j hj => hd j (by omega)))) (fun k hk => hl k (by simp [hk]))
        exact this _ 0 (by omega) (fun k hk => hkid k (List.mem_of_mem_take hk))
      obtain ⟨c1, c2, c3, c4⟩ := HC.out w (Below.refl _ _)
      have HF := Lib.hid hfold; clear hfold
      have HD := Lib.hid hd; clear hd
      have HKID := Lib.hid hkid; clear hkid
      go_enter Tryd.func118, Tryd.ntmps118
      go_wp2
      clear c1 c2 c3 c4
      go_loopw [5, 6] (fun o j wr => ∃ (k : Nat), k ≤ kids.length ∧ j = .int .i64 k ∧ OwnB wr w.heap.size 2 o ((kids.take k).foldl (fun m k => m ||| mskF f t k.toNat) 0) ∧ Below w.heap.size w wr) (fun _ j _ => kids.length - (intOf j).toNat)
      case atStart =>
        refine ⟨0, Nat.zero_le _, rfl, ?_, (Below.refl _ _).alloc (Nat.le_refl _) _⟩
        simp only [List.take_zero, List.foldl_nil, OwnB, bitsI, bitsN_zero, List.map_nil, List.length_nil]
        exact World.ownsRow_lit (base := w.heap.size) (e := 2) (size := 1) w #[] 0 (Nat.le_refl _) (by unfold maxLen; omega) rfl
      case round =>
        obtain ⟨k, hk, rfl, hown, hq⟩ := hrel
        obtain ⟨c1, c2, c3, c4⟩ := HC.out _ hq
        have hB := hq.size
        by_cases hlt : k < kids.length
        case neg =>
          go_wp2
          go_ret
          obtain rfl : k = kids.length := by omega
          rw [List.take_length, ← HW1.out] at hown
          exact ⟨_, rfl, hown, hq⟩
        obtain ⟨kb, ko, kcap, hke, hkc⟩ := c4.at_
        have hke := hke (by omega)
        simp only [Value.slice.injEq, true_and] at hke
        obtain ⟨rfl, rfl⟩ := hke
        have hcell := hkc k hlt
        clear hkc
        have hkr := HKID.out kids[k] (List.getElem_mem _)
        have hfs := fold_take (t := t) (f := f) hlt
        have hfk := HF.out (k + 1)
        have hfk0 := HF.out k
        obtain ⟨nx, hnx⟩ := Int.eq_ofNat_of_zero_le hkr.1
        rw [hnx] at hcell hkr hfs
        rw [Int.toNat_natCast] at hfs
        have HFS := Lib.hid hfs; clear hfs hnx
        have hmlt := mskF_lt (t := t) f nx (by omega) (fun j hj => HD.out j (by omega))
        have hcall := ih nx _ (hv.below hq (Nat.le_refl _)) (by omega) (by omega) (fun j hj => HD.out j (by omega))
        go_wp2_with fail
        refine hcall.mono ?_
        rintro e w2 ⟨u, rfl, hu, hb2⟩
        clear hcall
        have hown2 := hown.below hb2 (Nat.le_refl _)
        have hq2 := hq.trans (hb2.mono hB)
        generalize hM : mskF f t nx = M at *
        have HM := Lib.hid hM; clear hM
        have hur := hu.ints
        obtain ⟨ua, uc, rfl⟩ := hur.slice
        have hul := bitsI_len M
        generalize hF0 : (kids.take k).foldl (fun m k => m ||| mskF f t k.toNat) 0 = F0 at *
        have HF0 := Lib.hid hF0; clear hF0
        go_wp2
        go_loopw [5, 8] (fun o j ws => ∃ (r : Nat), r ≤ (bitsI M).length ∧ j = .int .i64 r ∧ OwnB ws w.heap.size 2 o (F0 ||| preB M r) ∧ Below w2.heap.size w2 ws) (fun _ j _ => (bitsI M).length - (intOf j).toNat)
        case atStart =>
          refine ⟨0, Nat.zero_le _, rfl, ?_, Below.refl _ _⟩
          rw [show preB M 0 = 0 from rfl, Nat.or_zero]; exact hown2
        case round =>
          clear hown hown2
          obtain ⟨r, hr, rfl, hown, hqs⟩ := hrel
          by_cases hlt2 : r < (bitsI M).length
          · obtain ⟨ub, uo, ucap, hue, huc⟩ := (hur.below hqs (Nat.le_refl _)).at_
            have hue := hue (by omega)
            simp only [Value.slice.injEq, true_and] at hue
            obtain ⟨rfl, rfl⟩ := hue
            have hcell := huc r hlt2
            clear huc
            obtain ⟨x, hx, hx32⟩ := bitsI_range hlt2
            have hps := preB_succ hlt2
            rw [hx] at hcell hps
            rw [Int.toNat_natCast] at hps
            have HPS := Lib.hid hps; clear hps hx
            have hplt := preB_lt r hmlt
            have hB2 : w.heap.size ≤ wr.heap.size := Nat.le_trans hq2.size hqs.size
            have hcl := intoB_any (x := x) hown hB2 (Nat.or_lt_two_pow (n := 32) hfk0 hplt) hx32
            go_wp2_with fail
            refine hcl.mono ?_
            rintro e w3 ⟨u3, rfl, hu3, hb3⟩
            go_wp2
            go_roundw
            case rel => exact ⟨r + 1, by omega, by go_num, by rw [HPS.out, ← Nat.or_assoc]; exact hu3, hqs.trans (hb3.mono hqs.size)⟩
            case measure => simp [intOf]; omega
          · obtain rfl : r = (bitsI M).length := by omega
            rw [preB_all hmlt] at hown
            go_wp2
            go_roundw
            case rel =>
              refine ⟨k + 1, by omega, by go_num, ?_, hq2.trans (hqs.mono hq2.size)⟩
              rw [HFS.out]; exact hown
            case measure => simp [intOf]; omega
end Go.Proofs.YtfccpencgengaaaDoor
