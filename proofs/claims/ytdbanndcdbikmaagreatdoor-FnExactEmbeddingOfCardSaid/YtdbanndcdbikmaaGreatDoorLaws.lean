/- The laws' own helpers: sizes, copies, comparisons. -/
import Derived.Test.YtdbanndcdbikmaaGreatDoorOwn
namespace Go.Proofs.YtdbanndcdbikmaaGreatDoor
open Go.RowKit
/-- What a size leaves: less than nothing, or a number that bounds what was counted. -/
def SzPost (small : Prop) (left : Int) (w : World) (e : Ending) (w' : World) : Prop := ∃ r : Int, e = .returned (.int .i64 r) ∧ -1 ≤ r ∧ r ≤ left ∧ (0 ≤ r → small) ∧ Below w.heap.size w w'
theorem szInt64S_any {S : Nat → Prop} (v : Value) (xs : List Int) (left : Int) (w : World) (hv : SlI S w .i64 v xs) (h0 : 0 ≤ left) (h1 : left ≤ 1048576) :
    Calls Tryz.prog 85 #[v, .int .i64 left] w (SzPost (xs.length ≤ left) left w) := by
  obtain ⟨a, b, off, cap, rfl, hl, ha, hc⟩ := hv
  by_cases h : left - xs.length < 0
  · go_enter Tryz.func85, Tryz.ntmps85
    go_wp2
    go_ret
    exact ⟨-1, rfl, by omega, by omega, fun h => by omega, Below.refl _ _⟩
  · go_enter Tryz.func85, Tryz.ntmps85
    go_wp2
    go_ret
    exact ⟨left - xs.length, rfl, by omega, by omega, fun h => by omega, Below.refl _ _⟩
def SmallTo (g : List (List Int)) (left : Int) (k : Nat) : Prop := (g.length : Int) ≤ left ∧ ∀ i (h : i < g.length), i < k → (g[i].length : Int) ≤ left
def SmallR (g : List (List Int)) (left : Int) : Prop := SmallTo g left g.length
theorem smallR_mono {g : List (List Int)} {a b : Int} (h : SmallR g a) (hab : a ≤ b) : SmallR g b := ⟨Int.le_trans h.1 hab, fun i hi hk => Int.le_trans (h.2 i hi hk) hab⟩
set_option maxHeartbeats 1000000 in
theorem szInt64SS_any {S : Nat → Prop} (v : Value) (g : List (List Int)) (left : Int) (w : World) (hv : SlR S w v g) (h0 : 0 ≤ left) (h1 : left ≤ 1048576) :
    Calls Tryz.prog 43 #[v, .int .i64 left] w (SzPost (SmallR g left) left w) := by
  obtain ⟨a, b, off, cap, f, rfl, hl, ha, hc0⟩ := hv
  by_cases h : left - g.length < 0
  · go_enter Tryz.func43, Tryz.ntmps43
    go_wp2
    go_ret
    exact ⟨-1, rfl, by omega, by omega, fun h => by omega, Below.refl _ _⟩
  · go_enter Tryz.func43, Tryz.ntmps43
    go_wp2
    go_loopw [5, 1] (fun i l wr => ∃ (k : Nat) (r : Int), k ≤ g.length ∧ i = .int .i64 k ∧ l = .int .i64 r ∧ 0 ≤ r ∧ r ≤ left ∧ SmallTo g left k ∧ Below w.heap.size w wr) (fun i _ _ => g.length - (intOf i).toNat)
    case atStart => exact ⟨0, left - g.length, Nat.zero_le _, rfl, rfl, by omega, by omega, ⟨by omega, fun _ _ h => by omega⟩, Below.refl _ _⟩
    case round =>
      obtain ⟨k, r, hk, rfl, rfl, hr0, hr1, hs, hq⟩ := hrel
      have hc := hc0.below hq (Nat.le_refl _)
      by_cases hlt : k < g.length
      · obtain ⟨hcell, hrow⟩ := hc k hlt
        obtain ⟨rfl, hS⟩ := ha (by omega)
        go_wp2_with (go_at_call 85; refine (szInt64S_any _ _ _ _ hrow (by omega) (by omega)).mono ?_; rintro e w' ⟨r', rfl, hr2, hr3, hsm, hq'⟩)
        · go_ret
          exact ⟨-1, rfl, by omega, by omega, fun h => by omega, hq.trans (hq'.mono hq.size)⟩
        · have hr4 : 0 ≤ r' := by assumption
          go_roundw
          case rel =>
            refine ⟨k + 1, r', by omega, by go_num, rfl, by omega, by omega, ⟨hs.1, fun i hi hik => ?_⟩, hq.trans (hq'.mono hq.size)⟩
            by_cases e : i = k
            · subst e; have := hsm (by omega); omega
            · exact hs.2 i hi (by omega)
          case measure => simp [intOf]; omega
      · go_wp2
        go_ret
        obtain rfl : k = g.length := by omega
        exact ⟨r, rfl, by omega, by omega, fun _ => hs, hq⟩
theorem szGraph_any {S : Nat → Prop} (v : Value) (g : List (List Int)) (left : Int) (w : World) (hv : SlR S w v g) (h0 : 0 ≤ left) (h1 : left ≤ 1048576) :
    Calls Tryz.prog 16 #[.agg #[v], .int .i64 left] w (SzPost (SmallR g left) left w) := by
  have hb : Below w.heap.size w (w.alloc (.cells #[v] 38)) := (Below.refl _ _).alloc (Nat.le_refl _) _
  go_enter Tryz.func16, Tryz.ntmps16
  go_wp2_with (go_at_call 43; refine (szInt64SS_any _ _ _ _ (hv.below hb (Nat.le_refl _)) (by omega) (by omega)).mono ?_; rintro e w' ⟨r', rfl, hr2, hr3, hsm, hq'⟩)
  · go_ret
    exact ⟨-1, rfl, by omega, by omega, fun h => by omega, hb.trans (hq'.mono hb.size)⟩
  · go_ret
    exact ⟨r', rfl, by omega, by omega, hsm, hb.trans (hq'.mono hb.size)⟩
set_option maxHeartbeats 1000000 in
theorem toInt64S_any {S : Nat → Prop} (v : Value) (xs : List Int) (w : World) (hv : SlI S w .i64 v xs) (hx : xs.length ≤ 1048576) :
    Calls Tryz.prog 87 #[v] w fun e w' => ∃ u, e = .returned u ∧ Own w' w.heap.size 2 1 u xs.length (xs.map (.int .i64)) ∧ Below w.heap.size w w' := by
  obtain ⟨a, b, off, cap, rfl, hl, ha, hc0⟩ := hv
  have hmk := run_make_row' (P := Tryz.prog) 36 2 (.int .i64 0) 8 elI64.ht elI64.hi rfl .i64 .i64 xs.length (by omega) (by omega)
  go_enter Tryz.func87, Tryz.ntmps87
  go_wp2
  go_loopw [4] (fun i wr => ∃ k : Nat, k ≤ xs.length ∧ i = .int .i64 k ∧ Below w.heap.size w wr ∧
      Own wr w.heap.size 2 1 (.slice (some ⟨w.heap.size, 0, none⟩) xs.length xs.length) xs.length ((xs.map (.int .i64)).take k ++ List.replicate ((xs.map (Value.int .i64)).length - k) (.int .i64 0))) (fun i _ => xs.length - (intOf i).toNat)
  case atStart => exact ⟨0, Nat.zero_le _, rfl, (Below.refl _ _).alloc (Nat.le_refl _) _, by simpa using Own.made w w.heap.size 2 (.int .i64 0) xs.length (Nat.le_refl _) (by omega)⟩
  case round =>
    clear hmk
    obtain ⟨k, hk, rfl, hq, hown⟩ := hrel
    have hc := hc0.below hq (Nat.le_refl _)
    by_cases hlt : k < xs.length
    · have hcell := hc k hlt
      obtain ⟨rfl, hS⟩ := ha (by omega)
      have hfz := World.ownsRow.frozenAt hown k
      have hdst : ∃ u, wr.cell? ⟨w.heap.size, k, none⟩ = some u := by
        rw [World.ownsRow.cellAt hown k (by omega)]
        exact ⟨_, List.getElem?_eq_getElem (by simp; omega)⟩
      obtain ⟨u0, hdst⟩ := hdst
      have HO := Lib.hid hown; clear hown
      go_wp2
      go_roundw
      case rel =>
        refine ⟨k + 1, by omega, by go_num, hq.setCell (by simp) _, ?_⟩
        have h1 := HO.out.stored k (.int .i64 xs[k])
        have h2 := fill_set (xs.map (Value.int .i64)) (.int .i64 0) k (by simpa using hlt)
        rw [List.getElem_map] at h2
        rw [h2] at h1; exact h1
      case measure => simp [intOf]; omega
    · go_wp2
      go_ret
      obtain rfl : k = xs.length := by omega
      exact ⟨_, rfl, own_full (by simp) hown, hq⟩
theorem elRows : Elem Tryz.prog 24 36 1 24 (.slice none 0 0) := ⟨Tryz.underlying24, by kernel_rfl, rfl, by omega, by omega⟩
set_option maxHeartbeats 1000000 in
theorem toInt64SS_any {S : Nat → Prop} (v : Value) (g : List (List Int)) (w : World) (hv : SlR S w v g) (hx : SmallR g 1048576) :
    Calls Tryz.prog 46 #[v] w fun e w' => ∃ u, e = .returned u ∧ SlR (fun b => w.heap.size ≤ b) w' u g ∧ Below w.heap.size w w' := by
  obtain ⟨a, b, off, cap, f, rfl, hl, ha, hc0⟩ := hv
  have hgl : g.length ≤ 1048576 := by have := hx.1; omega
  have hmk := run_make_row' (P := Tryz.prog) 24 36 (.slice none 0 0) 24 elRows.ht elRows.hi rfl .i64 .i64 g.length (by omega) (by omega)
  go_enter Tryz.func46, Tryz.ntmps46
  go_wp2
  go_loopw [4] (fun i wr => ∃ (k : Nat) (vs : List Value), vs.length = k ∧ k ≤ g.length ∧ i = .int .i64 k ∧ Below w.heap.size w wr ∧ RowsTo (fun b => w.heap.size < b) wr vs g ∧
      Own wr w.heap.size 36 1 (.slice (some ⟨w.heap.size, 0, none⟩) g.length g.length) g.length (vs ++ List.replicate (g.length - k) (.slice none 0 0))) (fun i _ => g.length - (intOf i).toNat)
  case atStart => exact ⟨0, [], rfl, Nat.zero_le _, rfl, (Below.refl _ _).alloc (Nat.le_refl _) _, .nil _ _ _, Own.made w w.heap.size 36 _ g.length (Nat.le_refl _) (by omega)⟩
  case round =>
    clear hmk
    obtain ⟨k, vs, hvk, hk, rfl, hq, hrows, hown⟩ := hrel
    have HK := Lib.hid hvk; clear hvk
    have hc := hc0.below hq (Nat.le_refl _)
    by_cases hlt : k < g.length
    · obtain ⟨hcell, hrow⟩ := hc k hlt
      have hsm : g[k].length ≤ 1048576 := by have := hx.2 k hlt hlt; omega
      obtain ⟨rfl, hS⟩ := ha (by omega)
      have hwl := (hown.lt _ rfl).2
      go_wp2_with (go_at_call 87; refine (toInt64S_any _ _ _ hrow hsm).mono ?_; rintro e w' ⟨u, rfl, hu, hq'⟩; have hown' := hown.below hq' (Nat.le_refl _); have hfz := World.ownsRow.frozenAt hown' k; obtain ⟨u0, hdst⟩ : ∃ u, w'.cell? ⟨w.heap.size, k, none⟩ = some u := ⟨_, (World.ownsRow.cellAt hown' k (by omega)).trans (List.getElem?_eq_getElem (by simp [HK.out]; omega))⟩; obtain ⟨ua, ul, uc, rfl⟩ : ∃ a l c, u = .slice a l c := (by obtain ⟨_, _, h, _⟩ := hu.slice; rcases h with ⟨h, _⟩ | ⟨h, _⟩ <;> exact ⟨_, _, _, h⟩))
      go_roundw
      case rel =>
        have hb : ∀ b, (Value.slice ua ul uc).ownBlock = some b → wr.heap.size ≤ b := hu.ge
        have hints := hu.ints (by omega)
        have hset := fun b (hb : w.heap.size < b) => Below.heap_setCell w' ⟨w.heap.size, k, none⟩ (.slice ua ul uc) b (by simp; omega)
        refine ⟨k + 1, vs ++ [.slice ua ul uc], by simp [HK.out], by omega, by go_num, ((hq.trans (hq'.mono hq.size))).setCell (by simp) _, ?_, ?_⟩
        · exact RowsTo.snoc HK.out ((hrows.below hq' (Nat.le_refl _)).keep hset) hlt ((hints.weak (fun b h => by have := hb b h; omega)).keep hset)
        · rw [← set_next HK.out hlt]; exact hown'.stored k _
      case measure => simp [intOf]; omega
    · go_wp2
      go_ret
      obtain rfl : k = g.length := by omega
      refine ⟨_, rfl, ?_, hq⟩
      rw [Nat.sub_self, List.replicate_zero, List.append_nil] at hown
      exact (hrows.weak' (fun b h => Nat.le_of_lt h)).rows HK.out (fun b hb => by simp [Value.ownBlock] at hb; omega) hown (by omega)
theorem toGraph_any {S : Nat → Prop} (v : Value) (g : List (List Int)) (w : World) (hv : SlR S w v g) (hx : SmallR g 1048576) :
    Calls Tryz.prog 18 #[.agg #[v]] w fun e w' => ∃ u, e = .returned (.agg #[u]) ∧ SlR (fun b => w.heap.size ≤ b) w' u g ∧ Below w.heap.size w w' := by
  have hb : Below w.heap.size w (((w.alloc (.cells #[v] 38)).alloc (.cells #[.slice none 0 0] 26)).alloc (.cells #[.slice none 0 0] 26)) :=
    (((Below.refl _ _).alloc (Nat.le_refl _) _).alloc (by simp) _).alloc (by simp; omega) _
  obtain ⟨va, vc, rfl⟩ := hv.slice
  go_enter Tryz.func18, Tryz.ntmps18
  go_wp2_with fail
  refine (toInt64SS_any _ _ _ (hv.below hb (Nat.le_refl _)) hx).mono ?_
  rintro e w' ⟨u, rfl, hu, hq'⟩
  obtain ⟨ua, uc, rfl⟩ := hu.slice
  have c1 : w'.cell? ⟨w.heap.size + 1, 0, none⟩ = some (.slice none 0 0) := (hq'.cell (p := ⟨w.heap.size + 1, 0, none⟩) (by simp)).trans (by simp [go_sem])
  have c2 : w'.cell? ⟨w.heap.size + 2, 0, none⟩ = some (.slice none 0 0) := (hq'.cell (p := ⟨w.heap.size + 2, 0, none⟩) (by simp)).trans (by simp [go_sem])
  have f1 : w'.frozen? ⟨w.heap.size + 1, 0, none⟩ = false := (hq'.frozen (p := ⟨w.heap.size + 1, 0, none⟩) (by simp)).trans (by simp [go_sem])
  have f2 : w'.frozen? ⟨w.heap.size + 2, 0, none⟩ = false := (hq'.frozen (p := ⟨w.heap.size + 2, 0, none⟩) (by simp)).trans (by simp [go_sem])
  go_wp2
  have hs := hq'.size
  simp at hs
  refine bodyPost_ret (v := .agg #[.slice ua g.length uc]) (by simp [results, Tryz.results18, go_sem, c1]) rfl ⟨_, rfl, ?_, ?_⟩
  · have hu1 : SlR (fun b => w.heap.size + 3 ≤ b) w' (.slice ua g.length uc) g := hu.weak (fun b h => by simp at h; omega)
    have hu2 := hu1.keep (w' := (w'.setCell ⟨w.heap.size + 2, 0, none⟩ (.slice ua g.length uc)).setCell ⟨w.heap.size + 1, 0, none⟩ (.slice ua g.length uc))
      (fun b h => (Below.heap_setCell _ _ _ _ (by simp; omega)).trans (Below.heap_setCell _ _ _ _ (by simp; omega)))
    exact hu2.weak (fun b h => by omega)
  · exact ((hb.trans (hq'.mono hb.size)).setCell (by simp; omega) _).setCell (by simp) _
set_option maxHeartbeats 400000 in
theorem eqInt64S_any {S S' : Nat → Prop} (v u : Value) (xs ys : List Int) (w : World) (hv : SlI S w .i64 v xs) (hu : SlI S' w .i64 u ys) :
    Calls Tryz.prog 91 #[v, u] w fun e w' => e = .returned (.bool (decide (xs = ys))) ∧ Drawn w w' := by
  obtain ⟨a, b, off, cap, rfl, hl, ha, hc0⟩ := hv
  obtain ⟨a', b', off', cap', rfl, hl', ha', hc0'⟩ := hu
  by_cases hne : xs.length = ys.length
  · have hn0 : ((xs.length : Int) != ys.length) = false := by simp [hne]
    have HN := Lib.hid hne; clear hne
    go_enter Tryz.func91, Tryz.ntmps91
    go_wp2
    go_loopw [5] (fun i wr => ∃ k : Nat, k ≤ xs.length ∧ i = .int .i64 k ∧ xs.take k = ys.take k ∧ Drawn w wr) (fun i _ => xs.length - (intOf i).toNat)
    case atStart => exact ⟨0, Nat.zero_le _, rfl, rfl, Drawn.refl _⟩
    case round =>
      obtain ⟨k, hk, rfl, he, hq⟩ := hrel
      have HE := Lib.hid he; clear he
      have hc := hc0.drawn hq
      have hc' := hc0'.drawn hq
      by_cases hlt : k < xs.length
      · have hlt' : k < ys.length := by have := HN.out; omega
        have hcell := hc k hlt
        have hcell' := hc' k hlt'
        obtain ⟨rfl, hS⟩ := ha (by omega)
        obtain ⟨rfl, hS'⟩ := ha' (by omega)
        by_cases heq : xs[k] = ys[k]
        · have hb : (xs[k] != ys[k]) = false := by simp [heq]
          have HQ := Lib.hid heq; clear heq
          go_wp2
          go_quiet (fail)
          go_wp2
          go_roundw
          case rel =>
            refine ⟨k + 1, by omega, by go_num, ?_, hq.drewN _⟩
            rw [List.take_succ_eq_append_getElem hlt, List.take_succ_eq_append_getElem hlt', HE.out, HQ.out]
          case measure => simp [intOf]; omega
        · have hb : (xs[k] != ys[k]) = true := by simpa using heq
          go_wp2
          go_quiet (fail)
          go_wp2
          go_ret
          exact ⟨ret_bool (by have : ¬ xs = ys := fun h => heq (by subst h; rfl)
                              simp [this]), hq.drewN _⟩
      · go_wp2
        go_ret
        refine ⟨ret_bool ?_, hq⟩
        have h1 := HE.out
        rw [List.take_of_length_le (by omega), List.take_of_length_le (by have := HN.out; omega)] at h1
        simp [h1]
  · have hn0 : ((xs.length : Int) != ys.length) = true := by rw [bne_iff_ne]; omega
    go_enter Tryz.func91, Tryz.ntmps91
    go_wp2
    go_ret
    exact ⟨ret_bool (by have : ¬ xs = ys := fun h => hne (by subst h; rfl)
                        simp [this]), Drawn.refl _⟩
set_option maxHeartbeats 400000 in
theorem eqInt64SS_any {S S' : Nat → Prop} (v u : Value) (xs ys : List (List Int)) (w : World) (hv : SlR S w v xs) (hu : SlR S' w u ys) :
    Calls Tryz.prog 52 #[v, u] w fun e w' => e = .returned (.bool (decide (xs = ys))) ∧ Drawn w w' := by
  obtain ⟨a, b, off, cap, f, rfl, hl, ha, hc0⟩ := hv
  obtain ⟨a', b', off', cap', f', rfl, hl', ha', hc0'⟩ := hu
  by_cases hne : xs.length = ys.length
  · have hn0 : ((xs.length : Int) != ys.length) = false := by simp [hne]
    have HN := Lib.hid hne; clear hne
    go_enter Tryz.func52, Tryz.ntmps52
    go_wp2
    go_loopw [5] (fun i wr => ∃ k : Nat, k ≤ xs.length ∧ i = .int .i64 k ∧ xs.take k = ys.take k ∧ Drawn w wr) (fun i _ => xs.length - (intOf i).toNat)
    case atStart => exact ⟨0, Nat.zero_le _, rfl, rfl, Drawn.refl _⟩
    case round =>
      obtain ⟨k, hk, rfl, he, hq⟩ := hrel
      have HE := Lib.hid he; clear he
      have hc := hc0.drawn hq
      have hc' := hc0'.drawn hq
      by_cases hlt : k < xs.length
      · have hlt' : k < ys.length := by have := HN.out; omega
        obtain ⟨hcell, hrow⟩ := hc k hlt
        obtain ⟨hcell', hrow'⟩ := hc' k hlt'
        obtain ⟨rfl, hS⟩ := ha (by omega)
        obtain ⟨rfl, hS'⟩ := ha' (by omega)
        by_cases heq : xs[k] = ys[k]
        · have hb : decide (xs[k] = ys[k]) = true := by simp [heq]
          have HQ := Lib.hid heq; clear heq
          go_wp2
          go_quiet ((go_at_call 91; exact quiet_drawn (eqInt64S_any _ _ _ _ _ (hrow.drewN _) (hrow'.drewN _))))
          go_wp2
          go_roundw
          case rel =>
            refine ⟨k + 1, by omega, by go_num, ?_, hq.drewN _⟩
            rw [List.take_succ_eq_append_getElem hlt, List.take_succ_eq_append_getElem hlt', HE.out, HQ.out]
          case measure => simp [intOf]; omega
        · have hb : decide (xs[k] = ys[k]) = false := by simpa using heq
          go_wp2
          go_quiet ((go_at_call 91; exact quiet_drawn (eqInt64S_any _ _ _ _ _ (hrow.drewN _) (hrow'.drewN _))))
          go_wp2
          go_ret
          exact ⟨ret_bool (by have : ¬ xs = ys := fun h => heq (by subst h; rfl)
                              simp [this]), hq.drewN _⟩
      · go_wp2
        go_ret
        refine ⟨ret_bool ?_, hq⟩
        have h1 := HE.out
        rw [List.take_of_length_le (by omega), List.take_of_length_le (by have := HN.out; omega)] at h1
        simp [h1]
  · have hn0 : ((xs.length : Int) != ys.length) = true := by rw [bne_iff_ne]; omega
    go_enter Tryz.func52, Tryz.ntmps52
    go_wp2
    go_ret
    exact ⟨ret_bool (by have : ¬ xs = ys := fun h => hne (by subst h; rfl)
                        simp [this]), Drawn.refl _⟩
theorem eqGraph_any {S S' : Nat → Prop} (v u : Value) (xs ys : List (List Int)) (w : World) (hv : SlR S w v xs) (hu : SlR S' w u ys) :
    Calls Tryz.prog 21 #[.agg #[v], .agg #[u]] w fun e w' => e = .returned (.bool (decide (xs = ys))) ∧ Below w.heap.size w w' := by
  have hb : Below w.heap.size w ((w.alloc (.cells #[v] 26)).alloc (.cells #[u] 26)) := (((Below.refl _ _).alloc (Nat.le_refl _) _).alloc (by simp) _)
  by_cases heq : xs = ys
  · have hb1 : decide (xs = ys) = true := by simp [heq]
    have HQ := Lib.hid heq; clear heq
    go_enter Tryz.func21, Tryz.ntmps21
    go_wp2_with (go_at_call 52; refine (eqInt64SS_any _ _ _ _ _ (hv.below hb (Nat.le_refl _)) (hu.below hb (Nat.le_refl _))).mono ?_; rintro e w' ⟨rfl, m, rfl⟩)
    go_ret
    exact ⟨ret_bool hb1.symm, hb.trans (((Drawn.refl _).drewN _).below _)⟩
  · have hb1 : decide (xs = ys) = false := by simpa using heq
    go_enter Tryz.func21, Tryz.ntmps21
    go_wp2_with (go_at_call 52; refine (eqInt64SS_any _ _ _ _ _ (hv.below hb (Nat.le_refl _)) (hu.below hb (Nat.le_refl _))).mono ?_; rintro e w' ⟨rfl, m, rfl⟩)
    go_ret
    exact ⟨ret_bool hb1.symm, hb.trans (((Drawn.refl _).drewN _).below _)⟩
end Go.Proofs.YtdbanndcdbikmaaGreatDoor
