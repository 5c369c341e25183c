/- The list of all modules of the reference. -/
import Derived.Test.YtbpjbjeglcphcaaDoorDist3
import Derived.Test.YtbpjbjeglcphcaaDoorMod2
import Derived.Test.YtbpjbjeglcphcaaDoorOwnS
import Derived.Test.YtbpjbjeglcphcaaDoorLess
namespace Go.Proofs.YtbpjbjeglcphcaaDoor
open Go.RowKit
/-- The set m is a module. -/
noncomputable def modM (g : List (List Int)) (m : Nat) : Bool := decide (splitterI g (rangeI g.length) (bitsI m) < 0)
def ModL (g : List (List Int)) (b : Nat) (ms : List Nat) : Prop := ms.length < b ∧ ∀ m, m ∈ ms ↔ 0 < m ∧ m < b ∧ modM g m = true
theorem ModL.start (g : List (List Int)) : ModL g 1 [] := ⟨by simp, fun m => ⟨fun h => by simp at h, fun h => by omega⟩⟩
theorem ModL.skip {g : List (List Int)} {b : Nat} {ms : List Nat} (h : ModL g b ms) (hm : modM g b = false) : ModL g (b + 1) ms := ⟨by have := h.1; omega, fun m => (h.2 m).trans ⟨fun ⟨h1, h2, h3⟩ => ⟨h1, by omega, h3⟩, fun ⟨h1, h2, h3⟩ => by
  have : m ≠ b := fun e => by subst e; rw [hm] at h3; cases h3
  exact ⟨h1, by omega, h3⟩⟩⟩
theorem ModL.ins {g : List (List Int)} {b : Nat} {ms : List Nat} (h : ModL g b ms) (hb : 0 < b) (hm : modM g b = true) (k : Nat) : ModL g (b + 1) (ms.take k ++ [b] ++ ms.drop k) := by
  refine ⟨by have := h.1; simp only [List.length_append, List.length_take, List.length_drop, List.length_cons, List.length_nil]; omega, fun m => ?_⟩
  have e : m ∈ ms.take k ++ [b] ++ ms.drop k ↔ m ∈ ms ∨ m = b := by
    rw [← List.take_append_drop k ms]
    simp only [List.take_append_drop, List.mem_append, List.mem_singleton]
    conv => rhs; rw [← List.take_append_drop k ms, List.mem_append]
    constructor
    · rintro ((h | h) | h)
      · exact .inl (.inl h)
      · exact .inr h
      · exact .inl (.inr h)
    · rintro ((h | h) | h)
      · exact .inl (.inl h)
      · exact .inr h
      · exact .inl (.inr h)
  rw [e, h.2 m]
  constructor
  · rintro (⟨h1, h2, h3⟩ | rfl)
    · exact ⟨h1, by omega, h3⟩
    · exact ⟨hb, by omega, hm⟩
  · rintro ⟨h1, h2, h3⟩
    by_cases e : m = b
    · exact .inr e
    · exact .inl ⟨h1, by omega, h3⟩
theorem own_cellsV {w : World} {B : Nat} {E : TypeId} {ob n c : Nat} {xs : List Value} (h : Own w B E 1 (.slice (some ⟨ob, 0, none⟩) n c) n xs) : ∀ j (h : j < xs.length), w.cell? ⟨ob, j, none⟩ = some xs[j] := by
  obtain ⟨g, cap, h1, h2⟩ := h.slice
  rcases h1 with ⟨h1, _⟩ | ⟨h1, _⟩
  · cases h1
  · simp only [Value.slice.injEq, Option.some.injEq, Addr.mk.injEq] at h1
    obtain ⟨⟨rfl, _⟩, _⟩ := h1
    exact h2
theorem own_capV {w : World} {B : Nat} {E : TypeId} {ob n c : Nat} {xs : List Value} (h : Own w B E 1 (.slice (some ⟨ob, 0, none⟩) n c) n xs) : n ≤ c ∧ c ≤ 9223372036854775807 := by
  obtain ⟨g, cap, h1, h2⟩ := h.slice
  rcases h1 with ⟨h1, _⟩ | ⟨h1, _, _, h3, h4⟩
  · cases h1
  · simp only [Value.slice.injEq] at h1
    obtain ⟨_, _, rfl⟩ := h1
    exact ⟨h3, h4⟩
theorem take_cells {w : World} {ob : Nat} {vs : List Value} (h : ∀ j (h : j < vs.length), w.cell? ⟨ob, j, none⟩ = some vs[j]) (k : Nat) : ∀ j u, (vs.take k)[j]? = some u → w.cell? ((⟨ob, 0, none⟩ : Addr).add j) = some u := fun j u hj => by
  obtain ⟨h1, rfl⟩ := List.getElem?_eq_some_iff.1 hj
  rw [List.getElem_take]
  rw [List.length_take] at h1
  have := h j (by omega)
  by_cases e : j = 0
  · subst e; simpa [Addr.add] using this
  · simpa [Addr.add, e] using this
theorem drop_cells {w : World} {ob : Nat} {vs : List Value} (h : ∀ j (h : j < vs.length), w.cell? ⟨ob, j, none⟩ = some vs[j]) (k : Nat) : ∀ j u, (vs.drop k)[j]? = some u → w.cell? ((⟨ob, k, none⟩ : Addr).add j) = some u := fun j u hj => by
  obtain ⟨h1, rfl⟩ := List.getElem?_eq_some_iff.1 hj
  rw [List.getElem_drop]
  rw [List.length_drop] at h1
  have := h (k + j) (by omega)
  by_cases e : j = 0
  · subst e; simpa [Addr.add] using this
  · simpa [Addr.add, e] using this
theorem ins_get {P : Value → Nat → Prop} {vs : List Value} {ms : List Nat} {s : Value} {b k : Nat} (hl : vs.length = ms.length) (h : ∀ i (h : i < ms.length) (h2 : i < vs.length), P vs[i] ms[i]) (hs : P s b) : ∀ i (h : i < (ms.take k ++ [b] ++ ms.drop k).length) (h2 : i < (vs.take k ++ [s] ++ vs.drop k).length), P (vs.take k ++ [s] ++ vs.drop k)[i] (ms.take k ++ [b] ++ ms.drop k)[i] := by
  have e1 : (vs.take k).length = (ms.take k).length := by rw [List.length_take, List.length_take, hl]
  simp only [List.append_assoc, List.singleton_append]
  intro i h1 h2
  have hh : ∀ j (g1 : j < (b :: ms.drop k).length) (g2 : j < (s :: vs.drop k).length), P (s :: vs.drop k)[j] (b :: ms.drop k)[j] := fun j g1 g2 => by
    cases j with
    | zero => exact hs
    | succ j =>
      simp only [List.getElem_cons_succ, List.getElem_drop]
      exact h _ _ _
  by_cases c1 : i < (ms.take k).length
  · have c2 : i < (vs.take k).length := by omega
    rw [List.getElem_append_left c1, List.getElem_append_left c2, List.getElem_take, List.getElem_take]
    exact h i _ _
  · have c2 : ¬ i < (vs.take k).length := by omega
    rw [List.getElem_append_right (by omega), List.getElem_append_right (by omega)]
    simp only [e1]
    have g1 : i - (ms.take k).length < (b :: ms.drop k).length := by rw [List.length_append] at h1; omega
    have g2 : i - (ms.take k).length < (s :: vs.drop k).length := by rw [List.length_append] at h2; omega
    exact hh _ g1 g2
theorem SlI.live {S : Nat → Prop} {w : World} {k : IntKind} {v : Value} {xs : List Int} (h : SlI S w k v xs) : SlI (fun b => S b ∧ b < w.heap.size) w k v xs := by
  obtain ⟨a, b, off, cap, rfl, hl, ha, hc⟩ := h
  exact ⟨a, b, off, cap, rfl, hl, fun h0 => ⟨(ha h0).1, (ha h0).2, cell_lt (hc 0 h0)⟩, hc⟩
theorem rows_ins {W W7 : World} {B : Nat} {E : TypeId} {v7 s : Value} {n : Nat} {xs : List Value} {vs : List Value} {ms : List Nat} {b k : Nat} (hq : Below W.heap.size W W7) (hB : B ≤ W.heap.size) (hown : Own W7 W.heap.size E 1 v7 n xs) (hl : vs.length = ms.length)
    (h : ∀ i (h : i < ms.length) (h2 : i < vs.length), SlI (fun x => B ≤ x ∧ x < W.heap.size) W .i64 vs[i] (bitsI ms[i])) (hs : SlI (fun x => B ≤ x ∧ x < W.heap.size) W .i64 s (bitsI b)) :
    ∀ i (h : i < (ms.take k ++ [b] ++ ms.drop k).length) (h2 : i < (vs.take k ++ [s] ++ vs.drop k).length), SlI (OffB W7 B v7) W7 .i64 (vs.take k ++ [s] ++ vs.drop k)[i] (bitsI (ms.take k ++ [b] ++ ms.drop k)[i]) := by
  have hke : ∀ {v : Value} {x : List Int}, SlI (fun x => B ≤ x ∧ x < W.heap.size) W .i64 v x → SlI (OffB W7 B v7) W7 .i64 v x := fun h => (h.below hq (Nat.le_refl _)).weak fun c hc => ⟨hc.1, Nat.lt_of_lt_of_le hc.2 hq.size, fun e => by have := (hown.lt c e).1; omega⟩
  exact ins_get (P := fun v m => SlI (OffB W7 B v7) W7 .i64 v (bitsI m)) hl (fun i h1 h2 => hke (h i h1 h2)) (hke hs)
theorem ins_len {α : Type} (l : List α) (x : α) (k : Nat) (hk : k ≤ l.length) : (l.take k ++ [x] ++ l.drop k).length = l.length + 1 := by
  simp only [List.length_append, List.length_take, List.length_drop, List.length_singleton]; omega
theorem ins_map (ms : List Nat) (b k : Nat) (f : Nat → List Int) : (ms.take k ++ [b] ++ ms.drop k).map f = (ms.map f).take k ++ [f b] ++ (ms.map f).drop k := by
  simp [List.map_take, List.map_drop]
theorem OwnS.vals {w : World} {B : Nat} {EO : TypeId} {u : Value} {g : List (List Int)} {vs : List Value} (hl : vs.length = g.length) (h : ∀ i (h : i < g.length) (h2 : i < vs.length), SlI (OffB w B u) w .i64 vs[i] g[i]) : ∀ x ∈ vs, x.oneCell' = true := fun x hx => by
  obtain ⟨i, hi, rfl⟩ := List.getElem_of_mem hx
  obtain ⟨a, c, e⟩ := (h i (by omega) hi).slice
  rw [e]; rfl
set_option maxRecDepth 100000 in
set_option maxHeartbeats 8000000 in
theorem specModulesOf_any {S : Nat → Prop} {v : Value} {g : List (List Int)} {w : World} (hv : SlR S w v g) :
    Calls Tryd.prog 12 #[.agg #[v]] w fun e w' => ∃ u ms, e = .returned u ∧ SlR (fun b => w.heap.size ≤ b) w' u (ms.map bitsI) ∧ ((gokB g && decide (g.length ≤ 8)) = true → ModL g (2 ^ g.length) ms) ∧ ((gokB g && decide (g.length ≤ 8)) = false → ms = []) ∧ Below w.heap.size w w' := by
  obtain ⟨va, vc, rfl⟩ := hv.slice
  have hq0 : Below w.heap.size w ((w.alloc (.cells #[.slice va g.length vc] 28)).alloc (.cells #[] 25)) := ((Below.refl _ _).alloc (Nat.le_refl _) _).alloc (by simp) _
  have hS0 : Own ((w.alloc (.cells #[.slice va g.length vc] 28)).alloc (.cells #[] 25)) (w.heap.size + 1) 25 1 (.slice (some ⟨w.heap.size + 1, 0, none⟩) 0 0) 0 [] := by
    have h := OwnS.empty (w.alloc (.cells #[.slice va g.length vc] 28)) (w.heap.size + 1) 25 (by simp)
    rw [show (w.alloc (.cells #[.slice va g.length vc] 28)).heap.size = w.heap.size + 1 by simp] at h
    have := World.ownsRow_lit (base := w.heap.size + 1) (e := 25) (size := 1) (w.alloc (.cells #[.slice va g.length vc] 28)) #[] 0 (by simp) (by unfold maxLen; omega) rfl
    simpa [Own] using this
  have c0 : ((w.alloc (.cells #[.slice va g.length vc] 28)).alloc (.cells #[] 25)).cell? ⟨w.heap.size, 0, none⟩ = some (.slice va g.length vc) := by simp [go_sem]
  have hgo := specGraphOk_any _ _ _ (hv.below hq0 (Nat.le_refl _))
  have hlen := hv.len
  by_cases hg : gokB g = true
  case neg =>
    have hg' : gokB g = false := by simpa using hg
    rw [hg'] at hgo
    have HG := Lib.hid hg'
    have HR := hS0.below (Below.refl _ _) (Nat.le_refl _)
    clear hg hg'
    go_enter Tryd.func12, Tryd.ntmps12
    go_wp2_with fail
    refine hgo.mono ?_
    rintro e w1 ⟨rfl, hb1⟩
    have hS1 := hS0.below hb1 (Nat.le_refl _)
    clear hgo HR
    go_wp2
    go_ret
    exact ⟨_, [], rfl, RowsTo.rows (vs := []) (RowsTo.nil _ _ _) rfl (fun b hb => by have := (hS1.lt b hb).1; omega) hS1 (by simp), fun h => by rw [HG.out] at h; simp at h, fun _ => rfl, hq0.trans (hb1.mono hq0.size)⟩
  have hgk := gokB_iff.1 hg
  have h16 := hgk.hi
  rw [hg] at hgo
  by_cases h8 : g.length ≤ 8
  case neg =>
    have hd : decide (8 < (g.length : Int)) = true := by rw [decide_eq_true_eq]; omega
    have HG := Lib.hid h8
    clear h8 hg
    go_enter Tryd.func12, Tryd.ntmps12
    go_wp2_with fail
    refine hgo.mono ?_
    rintro e w1 ⟨rfl, hb1⟩
    have hS1 := hS0.below hb1 (Nat.le_refl _)
    have c1 := (hb1.cell (cell_lt c0)).trans c0
    clear hgo
    go_wp2
    go_ret
    exact ⟨_, [], rfl, RowsTo.rows (vs := []) (RowsTo.nil _ _ _) rfl (fun b hb => by have := (hS1.lt b hb).1; omega) hS1 (by simp), fun h => by have := HG.out; simp at h; omega, fun _ => rfl, hq0.trans (hb1.mono hq0.size)⟩
  have hd : decide (8 < (g.length : Int)) = false := by rw [decide_eq_false_iff_not]; omega
  have HG := Lib.hid (show (gokB g && decide (g.length ≤ 8)) = true by simp [hg, h8])
  have hbit : bit g.length ≤ 256 := Nat.le_trans (Nat.pow_le_pow_right (by omega) h8) (by decide)
  have hbp : 2 ^ g.length = bit g.length := rfl
  have hb1' : 0 < bit g.length := Nat.two_pow_pos _
  rw [hbp]
  clear hg hbp
  go_enter Tryd.func12, Tryd.ntmps12
  go_wp2_with fail
  refine hgo.mono ?_
  rintro e w1 ⟨rfl, hb1⟩
  have hS1 := hS0.below hb1 (Nat.le_refl _)
  have c1 := (hb1.cell (cell_lt c0)).trans c0
  have hq1 := hq0.trans (hb1.mono hq0.size)
  have hz1 := hb1.size
  simp only [World.size_alloc] at hz1
  clear hgo hS0 c0 hq0 hb1
  go_wp2
  go_loopw [3, 4] (fun ov bv wr => ∃ (b : Nat) (ms : List Nat) (vs : List Value) (ob oc : Nat), 0 < b ∧ b ≤ bit g.length ∧ bv = .int .i64 (b : Int) ∧ ov = .slice (some ⟨ob, 0, none⟩) ms.length oc ∧ RowKit.Hid (ModL g b ms) ∧ ms.length < b ∧ Own wr (w.heap.size + 1) 25 1 ov ms.length vs ∧ vs.length = ms.length ∧ RowKit.Hid (∀ i (h : i < ms.length) (h2 : i < vs.length), SlI (OffB wr (w.heap.size + 1) ov) wr .i64 vs[i] (bitsI ms[i])) ∧ Below w.heap.size w wr ∧ w.heap.size + 1 ≤ wr.heap.size ∧ wr.cell? ⟨w.heap.size, 0, none⟩ = some (.slice va g.length vc)) (fun _ bv _ => 256 - (intOf bv).toNat)
  case atStart => exact ⟨1, [], [], _, _, by omega, by omega, rfl, rfl, Lib.hid (ModL.start g), by simp, hS1, rfl, Lib.hid (fun i hi => by simp at hi), hq1, by omega, c1⟩
  case round =>
    clear hS1 c1 hq1 hz1
    obtain ⟨b, ms, vs, ob, oc, hb0, hbb, rfl, rfl, HML, hmb, hown, hvl, HRW, hq, hz, hc⟩ := hrel
    have hbi := l12Bit_any g.length wr (by omega)
    by_cases hlt : b < bit g.length
    case neg =>
      have hbe : b = bit g.length := by omega
      have hsr : SlR (fun b => w.heap.size ≤ b) wr (.slice (some ⟨ob, 0, none⟩) ms.length oc) (ms.map bitsI) := RowsTo.rows (vs := vs) ⟨by rw [List.length_map]; omega, fun i hi h2 => by
        rw [List.getElem_map]
        exact (HRW.out i (by simpa using h2) hi).weak (fun b hb => by have := hb.1; omega)⟩ (by rw [List.length_map]; omega) (fun b hb => by have := (hown.lt b hb).1; omega) hown (by omega)
      have HB := Lib.hid hbe
      have hbf : decide ((b : Int) < (bit g.length : Int)) = false := by rw [decide_eq_false_iff_not]; omega
      obtain ⟨x, hx⟩ : ∃ x, x = bit g.length := ⟨_, rfl⟩
      rw [← hx] at hbi hlt hbf hb1' hbb hbit
      have HX := Lib.hid hx
      clear hbe HRW hown hvl hmb hx
      go_wp2_with (go_at_call 26; refine hbi.mono ?_; rintro e w' ⟨rfl, rfl⟩)
      go_ret
      exact ⟨_, ms, rfl, hsr, (fun _ => by rw [← HB.out]; exact HML.out), (fun h => by rw [HG.out] at h; cases h), hq⟩
    have hb256 : b < 1024 := by omega
    have hbw : IntKind.i64.wrap ((b : Int) + 1) = (b : Int) + 1 := IntWalk.i64_in _ (by omega)
    have hls := l12Set_any b wr hb256
    have hgw := fun (W : World) (h : Below w.heap.size w W) => hv.below h (Nat.le_refl _)
    obtain ⟨x, hx⟩ : ∃ x, x = bit g.length := ⟨_, rfl⟩
    rw [← hx] at hbi hlt hb1' hbb hbit
    have HX := Lib.hid hx
    clear hx
    obtain ⟨sp, hsp⟩ : ∃ sp, sp = splitterI g (rangeI g.length) (bitsI b) := ⟨_, rfl⟩
    have HM := Lib.hid (show modM g b = decide (sp < 0) by rw [hsp]; rfl)
    have HSP := Lib.hid hsp
    clear hsp
    go_wp2_with (go_at_call 26; refine hbi.mono ?_; rintro e w' ⟨rfl, rfl⟩)
    refine hls.mono ?_
    rintro e w2 ⟨su, rfl, hsu, hb2⟩
    obtain ⟨sa, sc, rfl⟩ := hsu.slice
    have hq2 := hq.trans (hb2.mono hq.size)
    have hc2 := (hb2.cell (cell_lt hc)).trans hc
    have hz2 := hb2.size
    clear hls hbi
    go_wp2
    have hkr := fun (W : World) (h : Below wr.heap.size wr W) => (show ∀ i (h : i < ms.length) (h2 : i < vs.length), SlI (OffB W (w.heap.size + 1) (.slice (some ⟨ob, 0, none⟩) ms.length oc)) W .i64 vs[i] (bitsI ms[i]) from fun i hi h2 => ((HRW.out i hi h2).below h (Nat.le_refl _)).weak fun b hb => ⟨hb.1, Nat.lt_of_lt_of_le hb.2.1 h.size, hb.2.2⟩)
    have HKR := Lib.hid hkr
    clear hkr
    cases hsb : decide (0 ≤ sp) with
    | true =>
      refine wp_region_held_drew (S := (fun w' => w'.cell? ⟨w.heap.size, 0, none⟩ = some (.slice va g.length vc))) (by kernel_rfl) ?_ (fun hHeld => ?_)
      · first | assumption | (simp [go_sem])
      have hqs : Below w2.heap.size w2 w2.drew := ((Drawn.refl _).drew).below _
      generalize w2.drew = wd at hqs hHeld ⊢
      have c1 := hHeld
      refine wpAnyH_take (i := 0) (v := ?v1) (by simp only [List.getElem?_toArray, List.getElem?_cons_zero]; exact rfl) (by kernel_rfl) (by kernel_rfl) (by kernel_rfl) (by intro _ _ _ h; exact h) (Or.inl ⟨by rfl, ?y1⟩) hHeld ?_
      case y1 => (intro w hSw; (try dsimp only at hSw); go_simp; try (with_reducible rfl))
      try simp only [Act.put, List.setIfInBounds_toArray, List.set_cons_zero, List.set_cons_succ]
      refine wpAnyH_take (i := 1) (v := ?v2) (by simp only [List.getElem?_toArray, List.getElem?_cons_succ, List.getElem?_cons_zero]; exact rfl) (by kernel_rfl) (by kernel_rfl) (by kernel_rfl) (by intro _ _ _ h; exact h) (Or.inl ⟨by rfl, ?y2⟩) hHeld ?_
      case y2 => (intro w hSw; (try dsimp only at hSw); go_simp; try (with_reducible rfl))
      try simp only [Act.put, List.setIfInBounds_toArray, List.set_cons_zero, List.set_cons_succ]
      refine wpAnyH_take (i := 3) (v := ?v3) (by simp only [List.getElem?_toArray, List.getElem?_cons_succ, List.getElem?_cons_zero]; exact rfl) (by kernel_rfl) (by kernel_rfl) (by kernel_rfl) (by intro _ _ _ h; exact h) (Or.inl ⟨by rfl, ?y3⟩) hHeld ?_
      case y3 => (intro w hSw; (try dsimp only at hSw); go_simp; try (with_reducible rfl))
      try simp only [Act.put, List.setIfInBounds_toArray, List.set_cons_zero, List.set_cons_succ]
      refine wpAnyH_ready (rs := [2]) (by kernel_rfl) (by simp) ?_
      refine AllReadyH.cons (by simp only [List.getElem?_toArray, List.getElem?_cons_succ, List.getElem?_cons_zero]; exact rfl) (fun K hK => ?_) AllReadyH.nil
      go_simp
      have hqc := hq2.trans (hqs.mono hq2.size)
      refine (l16All_any _ _ _ (hgw _ hqc) (by omega)).mono ?_
      rintro e w3 ⟨x3, rfl, hx3, hb3⟩
      have hqs := hqs.trans (hb3.mono hqs.size)
      have hx2 := Own.ints (xs := rangeI g.length) hx3 (by omega)
      have c1 := (hb3.cell (cell_lt c1)).trans c1
      try dsimp only
      refine hK.out _ _ ?h5 (fun hHeld => ?_)
      case h5 => first | assumption | (simp [go_sem])
      clear hK K
      try simp only [Act.put, List.setIfInBounds_toArray, List.set_cons_zero, List.set_cons_succ]
      refine wpAnyH_ready (rs := [4]) (by kernel_rfl) (by simp) ?_
      refine AllReadyH.cons (by simp only [List.getElem?_toArray, List.getElem?_cons_succ, List.getElem?_cons_zero]; exact rfl) (fun K hK => ?_) AllReadyH.nil
      go_simp
      have hqc := hq2.trans (hqs.mono hq2.size)
      have h17 := l17Splitter_any _ _ _ _ _ _ _ (hgw _ hqc) hx2 (hsu.below hqs (Nat.le_refl _)) (fun x hx => mem_rangeI.1 hx)
      rw [← HSP.out] at h17
      refine h17.mono ?_
      rintro e w4 ⟨rfl, hb4⟩
      have hqs := hqs.trans (hb4.mono hqs.size)
      have c1 := (hb4.cell (cell_lt c1)).trans c1
      try dsimp only
      refine hK.out _ _ ?h7 (fun hHeld => ?_)
      case h7 => first | assumption | (simp [go_sem])
      clear hK K
      try simp only [Act.put, List.setIfInBounds_toArray, List.set_cons_zero, List.set_cons_succ]
      refine wpAnyH_take (i := 5) (v := ?v8) (by simp only [List.getElem?_toArray, List.getElem?_cons_succ, List.getElem?_cons_zero]; exact rfl) (by kernel_rfl) (by kernel_rfl) (by kernel_rfl) (by intro _ _ _ h; exact h) (Or.inl ⟨by rfl, ?y8⟩) hHeld ?_
      case y8 => (intro w hSw; (try dsimp only at hSw); go_simp; try (with_reducible rfl))
      try simp only [Act.put, List.setIfInBounds_toArray, List.set_cons_zero, List.set_cons_succ]
      refine wpAnyH_done (by kernel_rfl) ?_ _
      have hqr := hb2.trans (hqs.mono hb2.size)
      have hqc := hq2.trans (hqs.mono hq2.size)
      have HML2 := Lib.hid (ModL.skip HML.out (show modM g b = false by rw [HM.out]; simp at hsb; rw [decide_eq_false_iff_not]; omega))
      go_wp2
      go_roundw
      case rel => exact ⟨b + 1, ms, vs, ob, oc, by omega, (by rw [← HX.out]; omega), by go_num, rfl, HML2, by omega, hown.below hqr (Nat.le_refl _), hvl, Lib.hid (HKR.out _ hqr), hqc, by have := hqr.size; omega, c1⟩
      case measure => simp [RowKit.intOf]; omega
    | false =>
      refine wp_region_held_drew (S := (fun w' => w'.cell? ⟨w.heap.size, 0, none⟩ = some (.slice va g.length vc))) (by kernel_rfl) ?_ (fun hHeld => ?_)
      · first | assumption | (simp [go_sem])
      have hqs : Below w2.heap.size w2 w2.drew := ((Drawn.refl _).drew).below _
      generalize w2.drew = wd at hqs hHeld ⊢
      have c1 := hHeld
      refine wpAnyH_take (i := 0) (v := ?v9) (by simp only [List.getElem?_toArray, List.getElem?_cons_zero]; exact rfl) (by kernel_rfl) (by kernel_rfl) (by kernel_rfl) (by intro _ _ _ h; exact h) (Or.inl ⟨by rfl, ?y9⟩) hHeld ?_
      case y9 => (intro w hSw; (try dsimp only at hSw); go_simp; try (with_reducible rfl))
      try simp only [Act.put, List.setIfInBounds_toArray, List.set_cons_zero, List.set_cons_succ]
      refine wpAnyH_take (i := 1) (v := ?v10) (by simp only [List.getElem?_toArray, List.getElem?_cons_succ, List.getElem?_cons_zero]; exact rfl) (by kernel_rfl) (by kernel_rfl) (by kernel_rfl) (by intro _ _ _ h; exact h) (Or.inl ⟨by rfl, ?y10⟩) hHeld ?_
      case y10 => (intro w hSw; (try dsimp only at hSw); go_simp; try (with_reducible rfl))
      try simp only [Act.put, List.setIfInBounds_toArray, List.set_cons_zero, List.set_cons_succ]
      refine wpAnyH_take (i := 3) (v := ?v11) (by simp only [List.getElem?_toArray, List.getElem?_cons_succ, List.getElem?_cons_zero]; exact rfl) (by kernel_rfl) (by kernel_rfl) (by kernel_rfl) (by intro _ _ _ h; exact h) (Or.inl ⟨by rfl, ?y11⟩) hHeld ?_
      case y11 => (intro w hSw; (try dsimp only at hSw); go_simp; try (with_reducible rfl))
      try simp only [Act.put, List.setIfInBounds_toArray, List.set_cons_zero, List.set_cons_succ]
      refine wpAnyH_ready (rs := [2]) (by kernel_rfl) (by simp) ?_
      refine AllReadyH.cons (by simp only [List.getElem?_toArray, List.getElem?_cons_succ, List.getElem?_cons_zero]; exact rfl) (fun K hK => ?_) AllReadyH.nil
      go_simp
      have hqc := hq2.trans (hqs.mono hq2.size)
      refine (l16All_any _ _ _ (hgw _ hqc) (by omega)).mono ?_
      rintro e w3 ⟨x3, rfl, hx3, hb3⟩
      have hqs := hqs.trans (hb3.mono hqs.size)
      have hx2 := Own.ints (xs := rangeI g.length) hx3 (by omega)
      have c1 := (hb3.cell (cell_lt c1)).trans c1
      try dsimp only
      refine hK.out _ _ ?h13 (fun hHeld => ?_)
      case h13 => first | assumption | (simp [go_sem])
      clear hK K
      try simp only [Act.put, List.setIfInBounds_toArray, List.set_cons_zero, List.set_cons_succ]
      refine wpAnyH_ready (rs := [4]) (by kernel_rfl) (by simp) ?_
      refine AllReadyH.cons (by simp only [List.getElem?_toArray, List.getElem?_cons_succ, List.getElem?_cons_zero]; exact rfl) (fun K hK => ?_) AllReadyH.nil
      go_simp
      have hqc := hq2.trans (hqs.mono hq2.size)
      have h17 := l17Splitter_any _ _ _ _ _ _ _ (hgw _ hqc) hx2 (hsu.below hqs (Nat.le_refl _)) (fun x hx => mem_rangeI.1 hx)
      rw [← HSP.out] at h17
      refine h17.mono ?_
      rintro e w4 ⟨rfl, hb4⟩
      have hqs := hqs.trans (hb4.mono hqs.size)
      have c1 := (hb4.cell (cell_lt c1)).trans c1
      try dsimp only
      refine hK.out _ _ ?h15 (fun hHeld => ?_)
      case h15 => first | assumption | (simp [go_sem])
      clear hK K
      try simp only [Act.put, List.setIfInBounds_toArray, List.set_cons_zero, List.set_cons_succ]
      refine wpAnyH_take (i := 5) (v := ?v16) (by simp only [List.getElem?_toArray, List.getElem?_cons_succ, List.getElem?_cons_zero]; exact rfl) (by kernel_rfl) (by kernel_rfl) (by kernel_rfl) (by intro _ _ _ h; exact h) (Or.inl ⟨by rfl, ?y16⟩) hHeld ?_
      case y16 => (intro w hSw; (try dsimp only at hSw); go_simp; try (with_reducible rfl))
      try simp only [Act.put, List.setIfInBounds_toArray, List.set_cons_zero, List.set_cons_succ]
      refine wpAnyH_done (by kernel_rfl) ?_ _
      have HIN := Lib.hid (fun k => ModL.ins HML.out hb0 (show modM g b = true by rw [HM.out]; simp at hsb; rw [decide_eq_true_eq]; omega) k)
      obtain ⟨wo, hwo⟩ : ∃ wo, wo = wr := ⟨_, rfl⟩
      subst hwo
      clear hHeld
      go_wp2
      go_loopw [6] (fun iv wr => ∃ k : Nat, k ≤ ms.length ∧ iv = .int .i64 (k : Int) ∧ Below w2.heap.size w2 wr ∧ wr.cell? ⟨w.heap.size, 0, none⟩ = some (.slice va g.length vc)) (fun iv _ => (RowKit.intOf iv).toNat)
      case atStart => exact ⟨ms.length, Nat.le_refl _, rfl, hqs, c1⟩
      case round =>
        clear hqs c1
        obtain ⟨k, hk, rfl, hqw, c1⟩ := hrel
        by_cases hk0 : k = 0
        case pos =>
          have hkd : decide (0 < (k : Int)) = false := by rw [decide_eq_false_iff_not]; omega
          have hkn : ¬ 0 < k := by omega
          clear hk0
          have hqc := hq2.trans (hqw.mono hq2.size)
          have hqr := hb2.trans (hqw.mono hb2.size)
          have hown1 := hown.below hqr (Nat.le_refl _)
          have hcel := own_cellsV hown1
          obtain ⟨hoc3, hoc4⟩ := own_capV hown1
          have hobl : ob < wr.heap.size := (hown1.lt ob rfl).2
          have HRW1 := Lib.hid (HKR.out _ hqr)
          have hone := OwnS.vals (vs := vs) (EO := 25) (u := .slice (some ⟨ob, 0, none⟩) ms.length oc) (g := ms.map bitsI) (B := w.heap.size + 1) (w := wr) (by rw [List.length_map]; exact hvl) (fun i hi h2 => by rw [List.getElem_map]; exact HRW1.out i (by simpa using hi) h2)
          have hsu1 := hsu.below hqw (Nat.le_refl _)
          have he0 : Own (wr.alloc (.cells #[] 25)) wr.heap.size 25 1 (.slice (some ⟨wr.heap.size, 0, none⟩) 0 0) 0 [] := World.ownsRow_lit (base := wr.heap.size) (e := 25) (size := 1) wr #[] 0 (Nat.le_refl _) (by unfold maxLen; omega) rfl
          have hz0 : wr.heap.size ≤ (wr.alloc (.cells #[] 25)).heap.size := by simp
          have hqe : Below wr.heap.size wr (wr.alloc (.cells #[] 25)) := (Below.refl _ _).alloc (Nat.le_refl _) _
          have hce : ∀ j (h : j < vs.length), (wr.alloc (.cells #[] 25)).cell? ⟨ob, j, none⟩ = some vs[j] := fun j h => (hqe.cell (p := ⟨ob, j, none⟩) hobl).trans (hcel j h)
          have hlt1 : (vs.take k).length = k * 1 := by rw [List.length_take]; omega
          have hlt2 : (vs.drop k).length = (ms.length - k) * 1 := by rw [List.length_drop]; omega
          have HLN := Lib.hid (And.intro hlt1 hlt2)
          have hnt := take_cells hce k
          clear hlt1 hlt2
          have hsl := hsu1.live.weak (fun c hc => (show w.heap.size + 1 ≤ c ∧ c < wr.heap.size from ⟨by omega, hc.2⟩))
          have hzw : w.heap.size + 1 ≤ wr.heap.size := by have := hqw.size; omega
          by_cases hck : oc = k
          · have hck2 := hck.symm
            subst hck2
            clear hck
            have hnd0 : ∀ j u, (vs.drop k)[j]? = some u → False := fun j u hj => by
              have := (List.getElem?_eq_some_iff.1 hj).1
              rw [List.length_drop] at this
              omega
            go_wp2_with (first | (at_builtin; refine wpList_append elRows rfl _ _ rfl he0 rfl rfl (news := vs.take k) HLN.out.1 hnt (fun u hu => hone u (List.mem_of_mem_take hu)) (by omega) hz0 ?_; intro v5 w5 h50 g5 m5; have h5 : Own w5 wr.heap.size 25 1 v5 k (vs.take k) := (by simpa using h50); clear h50; have hq5 := (KeptBut.of_grown g5).below hqe hz0 (fun b hb => he0.ge b hb); have hs5 := hq5.size; obtain ⟨a5, c5, rfl⟩ := h5.isSlice) | (at_builtin; refine wpList_append1b elRows rfl _ _ rfl h5 rfl rfl rfl rfl (by omega) hs5 ?_; intro v6 w6 h6 g6 m6; have hq6 := g6.below hq5 hs5 (fun b hb => h5.ge b hb); have hs6 := hq6.size; obtain ⟨a6, c6, rfl⟩ := h6.isSlice; have hnd := drop_cells (fun j (h : j < vs.length) => (hq6.cell (p := ⟨ob, j, none⟩) hobl).trans (hcel j h)) k) | (at_builtin; refine wpList_append0 elRows rfl _ _ rfl h6 rfl rfl ?_) | fail)
            have hke : k = ms.length := by omega
            have h7 : Own w6 wr.heap.size 25 1 (.slice a6 (k + 1) c6) (k + 1) (vs.take k ++ [.slice sa (bitsI b).length sc] ++ vs.drop k) := by rw [List.drop_eq_nil_of_le (show vs.length ≤ k by omega), List.append_nil]; exact h6
            obtain ⟨ob7, oc7, e7⟩ := own_some h7 (by omega)
            simp only [Value.slice.injEq] at e7
            obtain ⟨rfl, _, rfl⟩ := e7
            have HR7 := Lib.hid (rows_ins (k := k) hq6 hzw h7 hvl (fun i h1 h2 => (HRW1.out i h1 h2).weak fun c hc => ⟨hc.1, hc.2.1⟩) hsl)
            go_roundw
            case rel => exact ⟨b + 1, ms.take k ++ [b] ++ ms.drop k, _, ob7, c6, by omega, (by rw [← HX.out]; omega), by go_num, (by rw [ins_len _ _ _ hk, hke]), Lib.hid (HIN.out k), (by rw [ins_len _ _ _ hk]; omega), (by rw [ins_len _ _ _ hk]; rw [← hke]; exact h7.weak (by omega)), (by rw [ins_len _ _ _ hk, ins_len _ _ _ (by omega), hvl]), HR7, hqc.trans (hq6.mono (by omega)), by have := hq6.size; omega, (hq6.cell (cell_lt c1)).trans c1⟩
            case measure => simp [RowKit.intOf]; omega
          · go_wp2_with (first | (at_builtin; refine wpList_append elRows rfl _ _ rfl he0 rfl rfl (news := vs.take k) HLN.out.1 hnt (fun u hu => hone u (List.mem_of_mem_take hu)) (by omega) hz0 ?_; intro v5 w5 h50 g5 m5; have h5 : Own w5 wr.heap.size 25 1 v5 k (vs.take k) := (by simpa using h50); clear h50; have hq5 := (KeptBut.of_grown g5).below hqe hz0 (fun b hb => he0.ge b hb); have hs5 := hq5.size; obtain ⟨a5, c5, rfl⟩ := h5.isSlice) | (at_builtin; refine wpList_append1b elRows rfl _ _ rfl h5 rfl rfl rfl rfl (by omega) hs5 ?_; intro v6 w6 h6 g6 m6; have hq6 := g6.below hq5 hs5 (fun b hb => h5.ge b hb); have hs6 := hq6.size; obtain ⟨a6, c6, rfl⟩ := h6.isSlice; have hnd := drop_cells (fun j (h : j < vs.length) => (hq6.cell (p := ⟨ob, j, none⟩) hobl).trans (hcel j h)) k) | (at_builtin; refine wpList_append elRows rfl _ _ rfl h6 rfl rfl (news := vs.drop k) HLN.out.2 hnd (fun u hu => hone u (List.mem_of_mem_drop hu)) (by omega) hs6 ?_; intro v7 w7 h7 g7 m7; have hq7 := (KeptBut.of_grown g7).below hq6 hs6 (fun b hb => h6.ge b hb)) | fail)
            have h7b : Own w7 wr.heap.size 25 1 v7 (ms.length + 1) (vs.take k ++ [.slice sa (bitsI b).length sc] ++ vs.drop k) := by rw [show ms.length + 1 = k + 1 + (ms.length - k) by omega]; exact h7
            obtain ⟨ob7, oc7, rfl⟩ := own_some h7b (by omega)
            have HR7 := Lib.hid (rows_ins (k := k) hq7 hzw h7b hvl (fun i h1 h2 => (HRW1.out i h1 h2).weak fun c hc => ⟨hc.1, hc.2.1⟩) hsl)
            go_roundw
            case rel => exact ⟨b + 1, ms.take k ++ [b] ++ ms.drop k, _, ob7, oc7, by omega, (by rw [← HX.out]; omega), by go_num, (by rw [ins_len _ _ _ hk]), Lib.hid (HIN.out k), (by rw [ins_len _ _ _ hk]; omega), (by rw [ins_len _ _ _ hk]; exact h7b.weak (by omega)), (by rw [ins_len _ _ _ hk, ins_len _ _ _ (by omega), hvl]), HR7, hqc.trans (hq7.mono (by omega)), by have := hq7.size; omega, (hq7.cell (cell_lt c1)).trans c1⟩
            case measure => simp [RowKit.intOf]; omega
        have hkd : decide (0 < (k : Int)) = true := by rw [decide_eq_true_eq]; omega
        have hkn : 0 < k := by omega
        obtain ⟨j, hj⟩ : ∃ j, j = k - 1 := ⟨_, rfl⟩
        have hjk : j < k := by omega
        have hji : (k : Int) - 1 = (j : Int) := by omega
        have hjw : IntKind.i64.wrap ((k : Int) - 1) = (j : Int) := by rw [IntWalk.i64_in _ (by omega)]; omega
        have HJ := Lib.hid hj
        clear hj hk0
        have hqr := hb2.trans (hqw.mono hb2.size)
        have hqc := hq2.trans (hqw.mono hq2.size)
        have hown1 := hown.below hqr (Nat.le_refl _)
        have hcj := own_cellsV hown1 j (by omega)
        have hrj := HKR.out _ hqr j (by omega) (by omega)
        have hsu2 := hsu.below hqw (Nat.le_refl _)
        rw [bits_natsI3] at hrj
        rw [bits_natsI3 b] at hsu2
        have hle := l1Less_any hsu2 hrj
        have hbl : (natsI (bitsN b)).length = (bitsI b).length := by rw [bits_natsI3 b]
        rw [hbl] at hle
        clear hrj hsu2 hown1 hbl
        generalize lessN (bitsN b) (bitsN ms[j]) = c at *
        generalize vs[j] = vj at *
        cases c with
        | true =>
          go_wp2_with fail
          refine hle.mono ?_
          rintro e w8 ⟨rfl, hd8⟩
          have hb8 := hd8.below wr.heap.size
          go_wp2
          go_roundw
          case rel => exact ⟨j, by omega, by go_num, hqw.trans (hb8.mono hqw.size), (hb8.cell (cell_lt c1)).trans c1⟩
          case measure => simp [RowKit.intOf]; omega
        | false =>
          go_wp2_with fail
          refine hle.mono ?_
          rintro e w8 ⟨rfl, hd8⟩
          have hb8 := hd8.below wr.heap.size
          have c8 := (hb8.cell (cell_lt c1)).trans c1
          have hqw8 := hqw.trans (hb8.mono hqw.size)
          clear hle hcj hqr hqc c1 hqw hb8 hd8 hji hjw
          obtain ⟨wr, hwr⟩ : ∃ x, x = w8 := ⟨_, rfl⟩
          subst hwr
          have hqw := hqw8
          have c1 := c8
          clear c8 hqw8
          have hqc := hq2.trans (hqw.mono hq2.size)
          have hqr := hb2.trans (hqw.mono hb2.size)
          have hown1 := hown.below hqr (Nat.le_refl _)
          have hcel := own_cellsV hown1
          obtain ⟨hoc3, hoc4⟩ := own_capV hown1
          have hobl : ob < wr.heap.size := (hown1.lt ob rfl).2
          have HRW1 := Lib.hid (HKR.out _ hqr)
          have hone := OwnS.vals (vs := vs) (EO := 25) (u := .slice (some ⟨ob, 0, none⟩) ms.length oc) (g := ms.map bitsI) (B := w.heap.size + 1) (w := wr) (by rw [List.length_map]; exact hvl) (fun i hi h2 => by rw [List.getElem_map]; exact HRW1.out i (by simpa using hi) h2)
          have hsu1 := hsu.below hqw (Nat.le_refl _)
          have he0 : Own (wr.alloc (.cells #[] 25)) wr.heap.size 25 1 (.slice (some ⟨wr.heap.size, 0, none⟩) 0 0) 0 [] := World.ownsRow_lit (base := wr.heap.size) (e := 25) (size := 1) wr #[] 0 (Nat.le_refl _) (by unfold maxLen; omega) rfl
          have hz0 : wr.heap.size ≤ (wr.alloc (.cells #[] 25)).heap.size := by simp
          have hqe : Below wr.heap.size wr (wr.alloc (.cells #[] 25)) := (Below.refl _ _).alloc (Nat.le_refl _) _
          have hce : ∀ j (h : j < vs.length), (wr.alloc (.cells #[] 25)).cell? ⟨ob, j, none⟩ = some vs[j] := fun j h => (hqe.cell (p := ⟨ob, j, none⟩) hobl).trans (hcel j h)
          have hlt1 : (vs.take k).length = k * 1 := by rw [List.length_take]; omega
          have hlt2 : (vs.drop k).length = (ms.length - k) * 1 := by rw [List.length_drop]; omega
          have HLN := Lib.hid (And.intro hlt1 hlt2)
          have hnt := take_cells hce k
          clear hlt1 hlt2
          have hsl := hsu1.live.weak (fun c hc => (show w.heap.size + 1 ≤ c ∧ c < wr.heap.size from ⟨by omega, hc.2⟩))
          have hzw : w.heap.size + 1 ≤ wr.heap.size := by have := hqw.size; omega
          by_cases hck : oc = k
          · have hck2 := hck.symm
            subst hck2
            clear hck
            have hnd0 : ∀ j u, (vs.drop k)[j]? = some u → False := fun j u hj => by
              have := (List.getElem?_eq_some_iff.1 hj).1
              rw [List.length_drop] at this
              omega
            go_wp2_with (first | (at_builtin; refine wpList_append elRows rfl _ _ rfl he0 rfl rfl (news := vs.take k) HLN.out.1 hnt (fun u hu => hone u (List.mem_of_mem_take hu)) (by omega) hz0 ?_; intro v5 w5 h50 g5 m5; have h5 : Own w5 wr.heap.size 25 1 v5 k (vs.take k) := (by simpa using h50); clear h50; have hq5 := (KeptBut.of_grown g5).below hqe hz0 (fun b hb => he0.ge b hb); have hs5 := hq5.size; obtain ⟨a5, c5, rfl⟩ := h5.isSlice) | (at_builtin; refine wpList_append1b elRows rfl _ _ rfl h5 rfl rfl rfl rfl (by omega) hs5 ?_; intro v6 w6 h6 g6 m6; have hq6 := g6.below hq5 hs5 (fun b hb => h5.ge b hb); have hs6 := hq6.size; obtain ⟨a6, c6, rfl⟩ := h6.isSlice; have hnd := drop_cells (fun j (h : j < vs.length) => (hq6.cell (p := ⟨ob, j, none⟩) hobl).trans (hcel j h)) k) | (at_builtin; refine wpList_append0 elRows rfl _ _ rfl h6 rfl rfl ?_) | fail)
            have hke : k = ms.length := by omega
            have h7 : Own w6 wr.heap.size 25 1 (.slice a6 (k + 1) c6) (k + 1) (vs.take k ++ [.slice sa (bitsI b).length sc] ++ vs.drop k) := by rw [List.drop_eq_nil_of_le (show vs.length ≤ k by omega), List.append_nil]; exact h6
            obtain ⟨ob7, oc7, e7⟩ := own_some h7 (by omega)
            simp only [Value.slice.injEq] at e7
            obtain ⟨rfl, _, rfl⟩ := e7
            have HR7 := Lib.hid (rows_ins (k := k) hq6 hzw h7 hvl (fun i h1 h2 => (HRW1.out i h1 h2).weak fun c hc => ⟨hc.1, hc.2.1⟩) hsl)
            go_roundw
            case rel => exact ⟨b + 1, ms.take k ++ [b] ++ ms.drop k, _, ob7, c6, by omega, (by rw [← HX.out]; omega), by go_num, (by rw [ins_len _ _ _ hk, hke]), Lib.hid (HIN.out k), (by rw [ins_len _ _ _ hk]; omega), (by rw [ins_len _ _ _ hk]; rw [← hke]; exact h7.weak (by omega)), (by rw [ins_len _ _ _ hk, ins_len _ _ _ (by omega), hvl]), HR7, hqc.trans (hq6.mono (by omega)), by have := hq6.size; omega, (hq6.cell (cell_lt c1)).trans c1⟩
            case measure => simp [RowKit.intOf]; omega
          · go_wp2_with (first | (at_builtin; refine wpList_append elRows rfl _ _ rfl he0 rfl rfl (news := vs.take k) HLN.out.1 hnt (fun u hu => hone u (List.mem_of_mem_take hu)) (by omega) hz0 ?_; intro v5 w5 h50 g5 m5; have h5 : Own w5 wr.heap.size 25 1 v5 k (vs.take k) := (by simpa using h50); clear h50; have hq5 := (KeptBut.of_grown g5).below hqe hz0 (fun b hb => he0.ge b hb); have hs5 := hq5.size; obtain ⟨a5, c5, rfl⟩ := h5.isSlice) | (at_builtin; refine wpList_append1b elRows rfl _ _ rfl h5 rfl rfl rfl rfl (by omega) hs5 ?_; intro v6 w6 h6 g6 m6; have hq6 := g6.below hq5 hs5 (fun b hb => h5.ge b hb); have hs6 := hq6.size; obtain ⟨a6, c6, rfl⟩ := h6.isSlice; have hnd := drop_cells (fun j (h : j < vs.length) => (hq6.cell (p := ⟨ob, j, none⟩) hobl).trans (hcel j h)) k) | (at_builtin; refine wpList_append elRows rfl _ _ rfl h6 rfl rfl (news := vs.drop k) HLN.out.2 hnd (fun u hu => hone u (List.mem_of_mem_drop hu)) (by omega) hs6 ?_; intro v7 w7 h7 g7 m7; have hq7 := (KeptBut.of_grown g7).below hq6 hs6 (fun b hb => h6.ge b hb)) | fail)
            have h7b : Own w7 wr.heap.size 25 1 v7 (ms.length + 1) (vs.take k ++ [.slice sa (bitsI b).length sc] ++ vs.drop k) := by rw [show ms.length + 1 = k + 1 + (ms.length - k) by omega]; exact h7
            obtain ⟨ob7, oc7, rfl⟩ := own_some h7b (by omega)
            have HR7 := Lib.hid (rows_ins (k := k) hq7 hzw h7b hvl (fun i h1 h2 => (HRW1.out i h1 h2).weak fun c hc => ⟨hc.1, hc.2.1⟩) hsl)
            go_roundw
            case rel => exact ⟨b + 1, ms.take k ++ [b] ++ ms.drop k, _, ob7, oc7, by omega, (by rw [← HX.out]; omega), by go_num, (by rw [ins_len _ _ _ hk]), Lib.hid (HIN.out k), (by rw [ins_len _ _ _ hk]; omega), (by rw [ins_len _ _ _ hk]; exact h7b.weak (by omega)), (by rw [ins_len _ _ _ hk, ins_len _ _ _ (by omega), hvl]), HR7, hqc.trans (hq7.mono (by omega)), by have := hq7.size; omega, (hq7.cell (cell_lt c1)).trans c1⟩
            case measure => simp [RowKit.intOf]; omega
end Go.Proofs.YtbpjbjeglcphcaaDoor
