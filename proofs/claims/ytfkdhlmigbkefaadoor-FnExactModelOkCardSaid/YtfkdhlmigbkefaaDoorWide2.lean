/- Widths: the reference's number of a set, marks, table and what is behind. -/
import Derived.Test.YtfkdhlmigbkefaaDoorWide1
import Derived.Test.YtfkdhlmigbkefaaDoorReach2
import Derived.Test.YtfkdhlmigbkefaaDoorSets
namespace Go.Proofs.YtfkdhlmigbkefaaDoor
open Go.RowKit
def hiN (m v : Nat) : Nat := m / 2 ^ v
theorem hiN_step (m v : Nat) : hiN m v = 2 * hiN m (v + 1) + if m.testBit v = true then 1 else 0 := half_step m v
theorem hiN_top {m n : Nat} (h : m < 2 ^ n) : hiN m n = 0 := Nat.div_eq_of_lt h
theorem hiN_zero (m : Nat) : hiN m 0 = m := by simp [hiN]
theorem hiN_le (m v : Nat) : hiN m v ≤ m := Nat.div_le_self _ _
theorem Row.ofOwn {w : World} {B b n c : Nat} {E : TypeId} {xs : List Value} {f : Nat → Value} (h : Own w B E 1 (.slice (some ⟨b, 0, none⟩) n c) n xs) (hf : ∀ i (hi : i < xs.length), xs[i] = f i) : Row w b n f := fun i hi => by
  have hl : xs.length = n := by have := h.1; omega
  have h1 := World.ownsRow.cellAt h i (by omega)
  have h2 := World.ownsRow.frozenAt h i
  refine ⟨?_, h2⟩
  rw [h1, List.getElem?_eq_getElem (by omega), hf]
set_option maxHeartbeats 4000000 in
theorem l10Code_any {gb n gone : Nat} {w : World} (h : Row w gb n (markV gone)) (hn : n ≤ 10) (hg : gone < 2 ^ n) :
    Calls Tryd.prog 65 #[.slice (some ⟨gb, 0, none⟩) n n] w fun e w' => e = .returned (.int .i64 (gone : Int)) ∧ w = w' := by
  have hg10 : gone < 1024 := Nat.lt_of_lt_of_le hg (Nat.le_trans (Nat.pow_le_pow_right (by omega) hn) (by decide))
  have ht := hiN_top hg
  have HT := Lib.hid ht; clear ht hg
  go_enter Tryd.func65, Tryd.ntmps65
  go_wp2
  go_loopw [3, 4] (fun x i wr => ∃ (v : Nat) (j : Int), v ≤ n ∧ j = (v : Int) - 1 ∧ i = .int .i64 j ∧ x = .int .i64 (hiN gone v : Int) ∧ wr = w) (fun _ i _ => (intOf i + 1).toNat)
  case atStart => exact ⟨n, (n : Int) - 1, Nat.le_refl _, rfl, by go_num, by rw [HT.out]; rfl, rfl⟩
  case round =>
    obtain ⟨v, j, hv, hj, rfl, rfl, rfl⟩ := hrel
    cases v with
    | zero =>
      have hz := hiN_zero gone
      have HZ := Lib.hid hz; clear hz
      obtain rfl : j = -1 := by omega
      clear hj
      go_wp2
      go_ret
      exact ⟨ret_int (by rw [HZ.out]), rfl⟩
    | succ v =>
      obtain rfl : j = (v : Int) := by omega
      clear hj
      have hs := hiN_step gone v
      have hle := hiN_le gone v
      have hle2 := hiN_le gone (v + 1)
      obtain ⟨h1, -⟩ := h v (by omega)
      unfold markV at h1
      generalize hiN gone (v + 1) = y at *
      obtain ⟨x, hx⟩ : ∃ x, x = hiN gone v := ⟨_, rfl⟩
      rw [← hx] at hs hle
      have hfl := wFlag_any (gone.testBit v) wr
      have HX := Lib.hid hx; clear hx
      cases hb : gone.testBit v
      · rw [hb] at hs h1 hfl
        simp only [Bool.false_eq_true, if_false, Nat.add_zero] at hs hfl
        have HS := Lib.hid hs; clear hs hb
        go_wp2_with (go_at_call 83; refine hfl.mono ?_; rintro e w' ⟨rfl, rfl⟩)
        go_roundw
        case rel => exact ⟨v, (v : Int) - 1, by omega, rfl, by go_num, by rw [← HX.out, HS.out]; go_num, by trivial⟩
        case measure => simp only [intOf]; omega
      · rw [hb] at hs h1 hfl
        simp only [if_true] at hs hfl
        have HS := Lib.hid hs; clear hs hb
        go_wp2_with (go_at_call 83; refine hfl.mono ?_; rintro e w' ⟨rfl, rfl⟩)
        go_roundw
        case rel => exact ⟨v, (v : Int) - 1, by omega, rfl, by go_num, by rw [← HX.out, HS.out]; go_num, by trivial⟩
        case measure => simp only [intOf]; omega
theorem elMarks : Elem Tryd.prog 63 4 1 1 (.bool false) := ⟨Tryd.underlying63, by kernel_rfl, rfl, by omega, by omega⟩
set_option maxHeartbeats 4000000 in
theorem l10Marks_any {S S' : Nat → Prop} {v u : Value} {g : List (List Int)} {xs : List Int} {w : World} (hv : SlR S w v g) (hu : SlI S' w .i64 u xs) (hx : ∀ x ∈ xs, 0 ≤ x ∧ x < g.length) (hn : g.length ≤ 10) (h0 : 0 < g.length) :
    Calls Tryd.prog 40 #[.agg #[v], u] w fun e w' => ∃ gb, e = .returned (.slice (some ⟨gb, 0, none⟩) g.length g.length) ∧ w.heap.size ≤ gb ∧ Row w' gb g.length (markV (maskL xs)) ∧ Below w.heap.size w w' := by
  have hq0 : Below w.heap.size w (w.alloc (.cells #[v] 27)) := (Below.refl _ _).alloc (Nat.le_refl _) _
  have hmk := run_make_row' (P := Tryd.prog) 63 4 (.bool false) 1 elMarks.ht elMarks.hi rfl .i64 .i64 g.length (by omega) (by omega)
  obtain ⟨va, vc, rfl⟩ := hv.slice
  obtain ⟨ua, ub, uo, uc, rfl, hul, hua, hut⟩ := hu
  go_enter Tryd.func40, Tryd.ntmps40
  go_wp2_with (go_at_call 38; refine (wSize_any (hv.below hq0 (Nat.le_refl _))).mono ?_; rintro e w1 ⟨rfl, hb1⟩)
  have hq1 := hq0.trans (hb1.mono hq0.size)
  have hq2 := hq1.alloc hq1.size (.cells (madeCells #[Value.bool false] g.length) 4)
  have hr2 : Row (w1.alloc (.cells (madeCells #[Value.bool false] g.length) 4)) w1.heap.size g.length (markV (maskL (xs.take 0))) :=
    Row.ofOwn (Own.made w1 w1.heap.size 4 (.bool false) g.length (Nat.le_refl _) (by omega)) (fun i hi => by simp [markV, maskL])
  have hgb := hq1.size
  generalize w1.heap.size = gb at hr2 hgb ⊢
  generalize w1.alloc (.cells (madeCells #[Value.bool false] g.length) 4) = w2 at hr2 hq2 ⊢
  go_loopw [6] (fun i wr => ∃ k : Nat, k ≤ xs.length ∧ i = .int .i64 k ∧ Row wr gb g.length (markV (maskL (xs.take k))) ∧ Below w.heap.size w wr) (fun i _ => xs.length - (intOf i).toNat)
  case atStart => exact ⟨0, Nat.zero_le _, rfl, hr2, hq2⟩
  case round =>
    clear hr2 hq2
    obtain ⟨k, hk, rfl, hr, hq⟩ := hrel
    by_cases hlt : k < xs.length
    case neg =>
      obtain rfl : k = xs.length := by omega
      rw [List.take_length] at hr
      go_wp2
      go_ret
      exact ⟨_, rfl, hgb, hr, hq⟩
    have hc := hut k hlt
    obtain ⟨rfl, -⟩ := hua (by omega)
    have hxk := hx _ (List.getElem_mem hlt)
    have hm := maskL_take hlt
    generalize xs[k] = x at hc hxk hm
    obtain ⟨j, rfl⟩ := Int.eq_ofNat_of_zero_le hxk.1
    rw [Int.toNat_natCast] at hm
    have hjn : j < g.length := by omega
    have hc2 := (hq.cell (p := ⟨ub, uo + k, none⟩) (cell_lt hc)).trans hc
    obtain ⟨c1, f1⟩ := hr j hjn
    have hs := mark_set hr hjn
    rw [← hm] at hs
    have hq3 := hq.setCell (p := ⟨gb, j, none⟩) hgb (.bool true)
    clear hm hc
    go_wp2
    go_roundw
    case rel => exact ⟨k + 1, by omega, by go_num, hs, hq3⟩
    case measure => simp [intOf]; omega
theorem bit_double (k : Nat) : bit (k + 1) = 2 * bit k := by unfold bit; rw [Nat.pow_succ]; omega
theorem bit_le10 {n k : Nat} (hk : k ≤ n) (hn : n ≤ 10) : bit k ≤ 1024 := Nat.le_trans (Nat.pow_le_pow_right (by omega) (Nat.le_trans hk hn)) (by decide)
set_option maxHeartbeats 4000000 in
theorem l10Table_any {S : Nat → Prop} {v : Value} {g : List (List Int)} {w : World} (hv : SlR S w v g) {N : Nat} (hNe : bit g.length = N) (hn : g.length ≤ 10) :
    Calls Tryd.prog 41 #[.agg #[v]] w fun e w' => ∃ kb, e = .returned (.slice (some ⟨kb, 0, none⟩) N N) ∧ w.heap.size ≤ kb ∧ Row w' kb N (tabV fun _ => -1) ∧ Below w.heap.size w w' := by
  have hq0 : Below w.heap.size w (w.alloc (.cells #[v] 27)) := (Below.refl _ _).alloc (Nat.le_refl _) _
  obtain ⟨va, vc, rfl⟩ := hv.slice
  have hN := bit_le10 (Nat.le_refl g.length) hn
  rw [hNe] at hN
  have HNE := Lib.hid hNe; clear hNe
  have hmk := run_make_row' (P := Tryd.prog) 31 2 (.int .i64 0) 8 elI64.ht elI64.hi rfl .i64 .i64 N (by omega) (by omega)
  go_enter Tryd.func41, Tryd.ntmps41
  go_wp2
  go_loopw [3, 4] (fun x i wr => ∃ k : Nat, k ≤ g.length ∧ i = .int .i64 k ∧ x = .int .i64 (bit k : Int) ∧ Below w.heap.size w wr ∧ wr.cell? ⟨w.heap.size, 0, none⟩ = some (.slice va g.length vc)) (fun _ i _ => g.length - (intOf i).toNat)
  case atStart => exact ⟨0, Nat.zero_le _, rfl, rfl, hq0, by simp [go_sem]⟩
  case round =>
    obtain ⟨k, hk, rfl, rfl, hq, cg⟩ := hrel
    have hsz := wSize_any (hv.below hq (Nat.le_refl _))
    by_cases hlt : k < g.length
    case pos =>
      have hd := bit_double k
      have hb := bit_le10 hlt hn
      obtain ⟨y, hy⟩ : ∃ y, y = bit (k + 1) := ⟨_, rfl⟩
      rw [← hy] at hd hb
      have HY := Lib.hid hy; have HD := Lib.hid hd; clear hy
      generalize bit k = x at *
      go_wp2_with (go_at_call 38; refine hsz.mono ?_; rintro e w1 ⟨rfl, hb1⟩)
      go_roundw
      case rel => exact ⟨k + 1, by omega, by go_num, by rw [← HY.out, HD.out]; go_num, hq.trans (hb1.mono hq.size), (hb1.cell (cell_lt cg)).trans cg⟩
      case measure => simp [intOf]; omega
    obtain rfl : k = g.length := by omega
    rw [HNE.out]
    go_wp2_with (go_at_call 38; refine hsz.mono ?_; rintro e w1 ⟨rfl, hb1⟩)
    have hq1 := hq.trans (hb1.mono hq.size)
    have hq2 := hq1.alloc hq1.size (.cells (madeCells #[Value.int .i64 0] N) 2)
    have hr2 : Row (w1.alloc (.cells (madeCells #[Value.int .i64 0] N) 2)) w1.heap.size N (tabV fun c => if c < 0 then -1 else 0) :=
      Row.ofOwn (Own.made w1 w1.heap.size 2 (.int .i64 0) N (Nat.le_refl _) (by omega)) (fun i hi => by simp [tabV])
    have hkb := hq1.size
    generalize w1.heap.size = kb at hr2 hkb ⊢
    generalize w1.alloc (.cells (madeCells #[Value.int .i64 0] N) 2) = w2 at hr2 hq2 ⊢
    clear hsz hmk hq1 hb1
    go_loopw [6] (fun i wr => ∃ c : Nat, c ≤ N ∧ i = .int .i64 c ∧ Row wr kb N (tabV fun j => if j < c then -1 else 0) ∧ Below w.heap.size w wr) (fun i _ => N - (intOf i).toNat)
    case atStart => exact ⟨0, Nat.zero_le _, rfl, hr2, hq2⟩
    case round =>
      clear hr2 hq2 hq cg
      obtain ⟨c, hc, rfl, hr, hq⟩ := hrel
      by_cases hcl : c < N
      case neg =>
        obtain rfl : c = N := by omega
        have hr3 : Row wr kb c (tabV fun _ => -1) := fun i hi => by
          have := hr i hi
          unfold tabV at this ⊢
          simpa [hi] using this
        go_wp2
        go_ret
        exact ⟨_, rfl, hkb, hr3, hq⟩
      obtain ⟨c1, f1⟩ := hr c hcl
      have hs : Row (wr.setCell ⟨kb, c, none⟩ (.int .i64 (-1))) kb N (tabV fun j => if j < c + 1 then -1 else 0) := hr.set hcl fun i _ => by
        unfold tabV
        by_cases e : c = i
        · subst e; simp
        · by_cases e2 : i < c
          · have : i < c + 1 := by omega
            simp [e, e2, this]
          · have : ¬ i < c + 1 := by omega
            simp [e, e2, this]
      have hq3 := hq.setCell (p := ⟨kb, c, none⟩) hkb (.int .i64 (-1))
      unfold tabV at c1
      go_wp2
      go_roundw
      case rel => exact ⟨c + 1, by omega, by go_num, hs, hq3⟩
      case measure => simp [intOf]; omega
end Go.Proofs.YtfkdhlmigbkefaaDoor
