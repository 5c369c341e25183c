/- EarsOf of the program. -/
import Derived.Test.YtgkkgagnoeedaaaDoorEarX
import Derived.Test.YtgkkgagnoeedaaaDoorFit2
import Derived.Test.YtgkkgagnoeedaaaDoorLoop3
import Derived.Test.YtgkkgagnoeedaaaDoorEar2
import Derived.Test.YtgkkgagnoeedaaaDoorFit4
import Derived.Test.YtgkkgagnoeedaaaDoorSmall
import Derived.Test.YtgkkgagnoeedaaaDoorLink
namespace Go.Proofs.YtgkkgagnoeedaaaDoor
open Go.RowKit
/-- What the search hands back. -/
def GrowR (E : TypeId) (w : World) (o : Option (List Nat)) (e : Ending) (w' : World) : Prop :=
  ∃ a n c, e = .returned (.slice a n c) ∧ (!a.isNone) = o.isSome ∧ (∀ q, o = some q → Own w' w.heap.size E 1 (.slice a n c) q.length ((natsI q).map (.int .i64))) ∧ Below w.heap.size w w'
theorem mem_natsE {l : List Nat} {k : Nat} : (k : Int) ∈ natsI l ↔ k ∈ l := by
  unfold natsI
  rw [List.mem_map]
  constructor
  · rintro ⟨y, hy, e⟩
    have : y = k := by omega
    subst this; exact hy
  · intro h; exact ⟨k, h, rfl⟩
def okE (m L : Nat) (p : List Nat) (v : Nat) : Bool := (m.testBit v == decide (p.length + 1 = L)) && !decide (v ∈ p)
theorem candE_ok (A : List Nat) (m L : Nat) (p : List Nat) : candE A m L p = ((bitsN (A.getD (lastN p) 0)).drop 0).filter (okE m L p) := by rw [List.drop_zero]; rfl
set_option maxHeartbeats 1000000 in
theorem indexG_any {S : Nat → Prop} (v : Value) (xs : List Int) (n : Int) (w : World) (hv : SlI S w .i64 v xs) :
    Calls Tryd.prog 217 #[v, .int .i64 n] w fun e w' => e = .returned (.int .i64 (idxI xs n)) ∧ w = w' := by
  obtain ⟨a, b, off, cap, rfl, hl, ha, hc⟩ := hv
  go_enter Tryd.func217, Tryd.ntmps217
  go_wp2
  go_loop [8] (fun i => ∃ k : Nat, k ≤ xs.length ∧ i = .int .i64 k ∧ NotIn xs n k) (fun i => xs.length - (intOf i).toNat)
  case atStart => exact ⟨0, Nat.zero_le _, rfl, notIn_zero _ _⟩
  case round =>
    obtain ⟨k, hk, rfl, hn⟩ := hrel
    by_cases hlt : k < xs.length
    · have hcell := hc k hlt
      obtain ⟨rfl, hS⟩ := ha (by omega)
      by_cases he : xs[k] = n
      · have hb : (n == xs[k]) = true := by simp [he]
        have HE := Lib.hid he; clear he
        go_wp2
        go_ret
        exact ⟨ret_int (idxI_hit hlt hn HE.out).symm, rfl⟩
      · have hb : (n == xs[k]) = false := by simpa using fun e : n = xs[k] => he e.symm
        go_wp2
        go_round
        case rel => exact ⟨k + 1, by omega, by go_num, notIn_succ hlt hn he⟩
        case measure => simp [intOf]; omega
    · go_wp2
      go_ret
      exact ⟨ret_int (idxI_miss (by omega) hn).symm, rfl⟩
theorem containsG_any {S : Nat → Prop} (v : Value) (xs : List Int) (n : Int) (w : World) (hv : SlI S w .i64 v xs) :
    Calls Tryd.prog 186 #[v, .int .i64 n] w fun e w' => e = .returned (.bool (decide (n ∈ xs))) ∧ w = w' := by
  go_enter Tryd.func186, Tryd.ntmps186
  go_wp2_with (go_at_call 217; refine (indexG_any v xs n w hv).mono ?_; rintro e w' ⟨rfl, rfl⟩)
  go_ret
  exact ⟨ret_bool idxI_iff, rfl⟩
set_option maxRecDepth 100000 in
set_option maxHeartbeats 8000000 in
theorem growEar_any {lv : Value} {A : List Nat} {m L : Nat} (h16 : A.length ≤ 16) (hA : ∀ x ∈ A, x < 2 ^ A.length) (hm : m < 2 ^ A.length) (hL : L ≤ 16) :
    ∀ (d : Nat) (p : List Nat) (B : Nat) (ev : Value) (w : World), Tab w → p.length + (d + 1) = L → 0 < p.length → (∀ x ∈ p, x < A.length) → SlI (fun _ => True) w .u32 lv (natsI A) → Own w B 3 1 ev p.length ((natsI p).map (.int .i64)) →
      Calls Tryd.prog 140 #[lv, .int .u32 (m : Int), ev, .int .i64 (L : Int)] w (GrowR 3 w (dfsF (candE A m L) anyP (d + 1) p)) := by
  intro d
  induction d with
  | zero =>
    intro p B ev w ht hpd hp0 hpn hl ho
    have hei := Own.ints (xs := natsI p) (k := .i64) ho (by omega)
    obtain ⟨eb, eo, ec, hee, hec⟩ := hei.at_
    have hee := hee (by rw [natsI_len]; omega)
    rw [natsI_len] at hee
    obtain ⟨ab, ao, ac, hae, hac⟩ := hl.at_
    have hlast : lastN p < A.length := hpn _ (getD_mem (by omega))
    have hae := hae (by rw [natsI_len]; omega)
    rw [natsI_len] at hae
    subst hee hae
    have e1 : w.cell? ⟨eb, eo + (p.length - 1), none⟩ = some (.int .i64 ((lastN p : Nat) : Int)) := by
      rw [hec (p.length - 1) (by rw [natsI_len]; omega), natsI_get]; simp [lastN, show p.length - 1 < p.length by omega]
    have e3 : w.cell? ⟨ab, ao + lastN p, none⟩ = some (.int .u32 ((A.getD (lastN p) 0 : Nat) : Int)) := by
      rw [hac (lastN p) (by rw [natsI_len]; omega), natsI_get]; simp [show lastN p < A.length by omega]
    have hml : A.getD (lastN p) 0 < 2 ^ A.length := by
      have : A.getD (lastN p) 0 = A[lastN p]'(by omega) := by simp [show lastN p < A.length by omega]
      rw [this]
      exact hA _ (List.getElem_mem _)
    have hml32 := Nat.lt_trans hml (pow16_lt h16)
    have hm32 := Nat.lt_trans hm (pow16_lt h16)
    have hw1 : IntKind.i64.wrap ((p.length : Int) - 1) = (p.length : Int) - 1 := IntWalk.i64_in _ (by omega)
    have hw2 : ((p.length : Int) - 1).toNat = p.length - 1 := by omega
    have hw3 : (0 : Int) ≤ (p.length : Int) - 1 := by omega
    have hw4 : IntKind.i64.wrap ((L : Int) - 1) = (L : Int) - 1 := IntWalk.i64_in _ (by omega)
    have hcl : ((p.length : Int) == (L : Int) - 1) = true := by rw [beq_iff_eq]; omega
    have hb32 : ∀ v ∈ bitsN (A.getD (lastN p) 0), v < A.length := fun v hv => bit_lt_of hml ((mem_bitsN hml32).1 hv)
    have hbl : (bitsN (A.getD (lastN p) 0)).length ≤ 32 := popN_32 _
    have hls := list_any (A.getD (lastN p) 0) w ht hml32
    rw [show bitsI (A.getD (lastN p) 0) = natsI (bitsN (A.getD (lastN p) 0)) by simp [bitsI, natsI]] at hls
    have HOK := Lib.hid (fun k (hk : k < (bitsN (A.getD (lastN p) 0)).length) => try_step (f := fun v => dfsF (candE A m L) anyP 0 (p ++ [v])) (ok := okE m L p) hk)
    have hE0 : dfsF (candE A m L) anyP (0 + 1) p = tryL (fun v => dfsF (candE A m L) anyP 0 (p ++ [v])) (((bitsN (A.getD (lastN p) 0)).drop 0).filter (okE m L p)) := by rw [dfsF, candE_ok]
    have HE0 := Lib.hid hE0
    have HOKE := Lib.hid (fun v => show okE m L p v = ((m.testBit v == decide (p.length + 1 = L)) && !decide (v ∈ p)) from rfl)
    have HDC : RowKit.Hid (decide (p.length + 1 = L) = true) := Lib.hid (decide_eq_true (by omega))
    have HO := Lib.hid ho
    generalize hRe : dfsF (candE A m L) anyP (0 + 1) p = R at *
    have HBN := Lib.hid hb32
    have HML := Lib.hid (fun x (hx : x ∈ bitsN (A.getD (lastN p) 0)) => show x < 32 from by have := hb32 x hx; omega)
    generalize A.getD (lastN p) 0 = am at *
    clear hRe hE0 ho hb32 hml
    go_enter Tryd.func140, Tryd.ntmps140
    go_wp2_with fail
    with_reducible refine hls.mono ?_
    rintro e w1 ⟨u, rfl, hu, hb1⟩
    rw [natsI_len] at hu
    obtain ⟨ua, uc, rfl⟩ := hu.isSlice
    have hnq : ∀ (w : World) (a : Option Addr) (l c : Nat), (binOp .neq 84 (.slice a l c) (.slice none 0 0)).run Tryd.prog w = .ok (.bool (!a.isNone)) w := fun w a l c => run_neq_slice_nil w _ _ a l c Tryd.underlying84
    go_wp2
    go_loopw [32] (fun iv wr => ∃ k : Nat, k ≤ (bitsN am).length ∧ iv = .int .i64 k ∧ RowKit.Hid (R = tryL (fun v => dfsF (candE A m L) anyP 0 (p ++ [v])) (((bitsN am).drop k).filter (okE m L p))) ∧ Own wr w.heap.size 3 1 (.slice ua (bitsN am).length uc) (bitsN am).length ((natsI (bitsN am)).map (.int .i64)) ∧ Below w.heap.size w wr) (fun iv _ => (bitsN am).length - (RowKit.intOf iv).toNat)
    case atStart => exact ⟨0, Nat.zero_le _, rfl, HE0, hu, hb1⟩
    case round =>
      clear hu hb1 HE0 hls
      obtain ⟨k, hk, rfl, HK, hu, hq⟩ := hrel
      by_cases hlt : k < (bitsN am).length
      case neg =>
        obtain rfl : k = (bitsN am).length := by omega
        have HR := Lib.hid (show R = none by rw [HK.out, List.drop_length]; rfl)
        go_wp2
        go_ret
        exact ⟨none, 0, 0, rfl, by rw [HR.out]; rfl, (fun q h => by rw [HR.out] at h; cases h), hq⟩
      have hui := Own.ints (xs := natsI (bitsN am)) (k := .i64) hu (by omega)
      obtain ⟨ub, uo, uc2, hue, huc⟩ := hui.at_
      have hue := hue (by rw [natsI_len]; omega)
      simp only [Value.slice.injEq] at hue
      obtain ⟨rfl, -, rfl⟩ := hue
      have f1 : wr.cell? ⟨ub, uo + k, none⟩ = some (.int .i64 ((bitsN am)[k] : Int)) := by
        rw [huc k (by rw [natsI_len]; exact hlt), natsI_get]
      have hx32 := HML.out _ (List.getElem_mem hlt)
      have hxA := HBN.out _ (List.getElem_mem hlt)
      have HOKk := Lib.hid (HOK.out k hlt)
      have HOKx := Lib.hid (HOKE.out (bitsN am)[k])
      rw [HDC.out] at HOKx
      clear hui huc
      generalize (bitsN am)[k] = x at *
      have hha := has_any m x wr hm32 hx32
      have hoR := HO.out.below hq (Nat.le_refl _)
      have hco := containsG_any _ _ (x : Int) wr (Own.ints (xs := natsI p) (k := .i64) hoR (by omega))
      rw [show decide ((x : Int) ∈ natsI p) = decide (x ∈ p) from decide_eq_decide.2 mem_natsE] at hco
      have HMEM := Lib.hid (show decide (x ∈ p) = decide (x ∈ p) from rfl)
      generalize hcb : decide (x ∈ p) = cb at *
      clear hcb HMEM
      generalize htb : m.testBit x = tb at *
      clear htb
      cases tb with
      | false =>
        have HN := Lib.hid (show R = tryL (fun v => dfsF (candE A m L) anyP 0 (p ++ [v])) (((bitsN am).drop (k + 1)).filter (okE m L p)) by rw [HK.out, HOKk.out, HOKx.out]; rfl)
        clear HOKk HOKx HK hco
        go_wp2_with (first | (go_at_call 107; refine hha.mono ?_; rintro e w' ⟨rfl, rfl⟩) | fail)
        go_roundw
        case rel => exact ⟨k + 1, by omega, by go_num, HN, hu, hq⟩
        case measure => simp [RowKit.intOf]; omega
      | true =>
        cases cb with
        | true =>
          have HN := Lib.hid (show R = tryL (fun v => dfsF (candE A m L) anyP 0 (p ++ [v])) (((bitsN am).drop (k + 1)).filter (okE m L p)) by rw [HK.out, HOKk.out, HOKx.out]; rfl)
          clear HOKk HOKx HK
          go_wp2_with (first | (go_at_call 107; refine hha.mono ?_; rintro e w' ⟨rfl, rfl⟩) | (go_at_call 186; refine hco.mono ?_; rintro e w' ⟨rfl, rfl⟩) | fail)
          go_roundw
          case rel => exact ⟨k + 1, by omega, by go_num, HN, hu, hq⟩
          case measure => simp [RowKit.intOf]; omega
        | false =>
          have HR := Lib.hid (show R = some (p ++ [x]) by rw [HK.out, HOKk.out, HOKx.out]; rfl)
          clear HOKk HOKx HK
          have hB := hq.size
          have hcl2 := fun (W : World) (hb : Below wr.heap.size wr W) => cloneI_any (hoR.below hb (Nat.le_refl _)) (by omega)
          have hcl3 := hcl2 wr (Below.refl _ _)
          have HX := Lib.hid (show (natsI (p ++ [x])).map (Value.int .i64) = (natsI p).map (Value.int .i64) ++ [.int .i64 (x : Int)] by simp [natsI])
          clear hcl2
          go_wp2_with (first | (go_at_call 107; refine hha.mono ?_; rintro e w' ⟨rfl, rfl⟩) | (go_at_call 186; refine hco.mono ?_; rintro e w' ⟨rfl, rfl⟩) | fail)
          with_reducible refine hcl3.mono ?_
          rintro e w2 ⟨c, rfl, hc, hb2⟩
          go_wp2_with (first | (at_builtin; refine wpList_append1 elInt rfl _ _ rfl hc rfl rfl rfl (by omega) hb2.size ?_; intro v3 w3 hc3 hkept hmv) | fail)
          have hb3 : Below wr.heap.size wr w3 := hkept.below hb2 hb2.size (fun b hb => (hc.lt b hb).1)
          have hq3 := hq.trans (hb3.mono hB)
          rcases hc3.noneOrSome with ⟨-, h0⟩ | ⟨gb, gc, rfl⟩
          · omega
          go_wp2
          go_ret
          exact ⟨_, _, _, rfl, by rw [HR.out]; rfl, (fun q' h => by
            rw [HR.out] at h
            cases h
            rw [HX.out, List.length_append, List.length_singleton]
            exact hc3.weak hB), hq3⟩
  | succ d ih =>
    intro p B ev w ht hpd hp0 hpn hl ho
    have hei := Own.ints (xs := natsI p) (k := .i64) ho (by omega)
    obtain ⟨eb, eo, ec, hee, hec⟩ := hei.at_
    have hee := hee (by rw [natsI_len]; omega)
    rw [natsI_len] at hee
    obtain ⟨ab, ao, ac, hae, hac⟩ := hl.at_
    have hlast : lastN p < A.length := hpn _ (getD_mem (by omega))
    have hae := hae (by rw [natsI_len]; omega)
    rw [natsI_len] at hae
    subst hee hae
    have e1 : w.cell? ⟨eb, eo + (p.length - 1), none⟩ = some (.int .i64 ((lastN p : Nat) : Int)) := by
      rw [hec (p.length - 1) (by rw [natsI_len]; omega), natsI_get]; simp [lastN, show p.length - 1 < p.length by omega]
    have e3 : w.cell? ⟨ab, ao + lastN p, none⟩ = some (.int .u32 ((A.getD (lastN p) 0 : Nat) : Int)) := by
      rw [hac (lastN p) (by rw [natsI_len]; omega), natsI_get]; simp [show lastN p < A.length by omega]
    have hml : A.getD (lastN p) 0 < 2 ^ A.length := by
      have : A.getD (lastN p) 0 = A[lastN p]'(by omega) := by simp [show lastN p < A.length by omega]
      rw [this]
      exact hA _ (List.getElem_mem _)
    have hml32 := Nat.lt_trans hml (pow16_lt h16)
    have hm32 := Nat.lt_trans hm (pow16_lt h16)
    have hw1 : IntKind.i64.wrap ((p.length : Int) - 1) = (p.length : Int) - 1 := IntWalk.i64_in _ (by omega)
    have hw2 : ((p.length : Int) - 1).toNat = p.length - 1 := by omega
    have hw3 : (0 : Int) ≤ (p.length : Int) - 1 := by omega
    have hw4 : IntKind.i64.wrap ((L : Int) - 1) = (L : Int) - 1 := IntWalk.i64_in _ (by omega)
    have hcl : ((p.length : Int) == (L : Int) - 1) = false := by rw [beq_eq_false_iff_ne]; omega
    have hb32 : ∀ v ∈ bitsN (A.getD (lastN p) 0), v < A.length := fun v hv => bit_lt_of hml ((mem_bitsN hml32).1 hv)
    have hbl : (bitsN (A.getD (lastN p) 0)).length ≤ 32 := popN_32 _
    have hls := list_any (A.getD (lastN p) 0) w ht hml32
    rw [show bitsI (A.getD (lastN p) 0) = natsI (bitsN (A.getD (lastN p) 0)) by simp [bitsI, natsI]] at hls
    have HOK := Lib.hid (fun k (hk : k < (bitsN (A.getD (lastN p) 0)).length) => try_step (f := fun v => dfsF (candE A m L) anyP (d + 1) (p ++ [v])) (ok := okE m L p) hk)
    have hE0 : dfsF (candE A m L) anyP (d + 1 + 1) p = tryL (fun v => dfsF (candE A m L) anyP (d + 1) (p ++ [v])) (((bitsN (A.getD (lastN p) 0)).drop 0).filter (okE m L p)) := by rw [dfsF, candE_ok]
    have HE0 := Lib.hid hE0
    have HOKE := Lib.hid (fun v => show okE m L p v = ((m.testBit v == decide (p.length + 1 = L)) && !decide (v ∈ p)) from rfl)
    have HDC : RowKit.Hid (decide (p.length + 1 = L) = false) := Lib.hid (decide_eq_false (by omega))
    have HO := Lib.hid ho
    have HIH := Lib.hid ih
    generalize hRe : dfsF (candE A m L) anyP (d + 1 + 1) p = R at *
    have HBN := Lib.hid hb32
    have HML := Lib.hid (fun x (hx : x ∈ bitsN (A.getD (lastN p) 0)) => show x < 32 from by have := hb32 x hx; omega)
    generalize A.getD (lastN p) 0 = am at *
    clear hRe hE0 ih ho hb32 hml
    go_enter Tryd.func140, Tryd.ntmps140
    go_wp2_with fail
    with_reducible refine hls.mono ?_
    rintro e w1 ⟨u, rfl, hu, hb1⟩
    rw [natsI_len] at hu
    obtain ⟨ua, uc, rfl⟩ := hu.isSlice
    have hnq : ∀ (w : World) (a : Option Addr) (l c : Nat), (binOp .neq 84 (.slice a l c) (.slice none 0 0)).run Tryd.prog w = .ok (.bool (!a.isNone)) w := fun w a l c => run_neq_slice_nil w _ _ a l c Tryd.underlying84
    go_wp2
    go_loopw [32] (fun iv wr => ∃ k : Nat, k ≤ (bitsN am).length ∧ iv = .int .i64 k ∧ RowKit.Hid (R = tryL (fun v => dfsF (candE A m L) anyP (d + 1) (p ++ [v])) (((bitsN am).drop k).filter (okE m L p))) ∧ Own wr w.heap.size 3 1 (.slice ua (bitsN am).length uc) (bitsN am).length ((natsI (bitsN am)).map (.int .i64)) ∧ Below w.heap.size w wr) (fun iv _ => (bitsN am).length - (RowKit.intOf iv).toNat)
    case atStart => exact ⟨0, Nat.zero_le _, rfl, HE0, hu, hb1⟩
    case round =>
      clear hu hb1 HE0 hls
      obtain ⟨k, hk, rfl, HK, hu, hq⟩ := hrel
      by_cases hlt : k < (bitsN am).length
      case neg =>
        obtain rfl : k = (bitsN am).length := by omega
        have HR := Lib.hid (show R = none by rw [HK.out, List.drop_length]; rfl)
        go_wp2
        go_ret
        exact ⟨none, 0, 0, rfl, by rw [HR.out]; rfl, (fun q h => by rw [HR.out] at h; cases h), hq⟩
      have hui := Own.ints (xs := natsI (bitsN am)) (k := .i64) hu (by omega)
      obtain ⟨ub, uo, uc2, hue, huc⟩ := hui.at_
      have hue := hue (by rw [natsI_len]; omega)
      simp only [Value.slice.injEq] at hue
      obtain ⟨rfl, -, rfl⟩ := hue
      have f1 : wr.cell? ⟨ub, uo + k, none⟩ = some (.int .i64 ((bitsN am)[k] : Int)) := by
        rw [huc k (by rw [natsI_len]; exact hlt), natsI_get]
      have hx32 := HML.out _ (List.getElem_mem hlt)
      have hxA := HBN.out _ (List.getElem_mem hlt)
      have HOKk := Lib.hid (HOK.out k hlt)
      have HOKx := Lib.hid (HOKE.out (bitsN am)[k])
      rw [HDC.out] at HOKx
      clear hui huc
      generalize (bitsN am)[k] = x at *
      have hha := has_any m x wr hm32 hx32
      have hoR := HO.out.below hq (Nat.le_refl _)
      have hco := containsG_any _ _ (x : Int) wr (Own.ints (xs := natsI p) (k := .i64) hoR (by omega))
      rw [show decide ((x : Int) ∈ natsI p) = decide (x ∈ p) from decide_eq_decide.2 mem_natsE] at hco
      have HMEM := Lib.hid (show decide (x ∈ p) = decide (x ∈ p) from rfl)
      generalize hcb : decide (x ∈ p) = cb at *
      clear hcb HMEM
      generalize htb : m.testBit x = tb at *
      clear htb
      cases tb with
      | true =>
        have HN := Lib.hid (show R = tryL (fun v => dfsF (candE A m L) anyP (d + 1) (p ++ [v])) (((bitsN am).drop (k + 1)).filter (okE m L p)) by rw [HK.out, HOKk.out, HOKx.out]; rfl)
        clear HOKk HOKx HK hco
        go_wp2_with (first | (go_at_call 107; refine hha.mono ?_; rintro e w' ⟨rfl, rfl⟩) | fail)
        go_roundw
        case rel => exact ⟨k + 1, by omega, by go_num, HN, hu, hq⟩
        case measure => simp [RowKit.intOf]; omega
      | false =>
        cases cb with
        | true =>
          have HN := Lib.hid (show R = tryL (fun v => dfsF (candE A m L) anyP (d + 1) (p ++ [v])) (((bitsN am).drop (k + 1)).filter (okE m L p)) by rw [HK.out, HOKk.out, HOKx.out]; rfl)
          clear HOKk HOKx HK
          go_wp2_with (first | (go_at_call 107; refine hha.mono ?_; rintro e w' ⟨rfl, rfl⟩) | (go_at_call 186; refine hco.mono ?_; rintro e w' ⟨rfl, rfl⟩) | fail)
          go_roundw
          case rel => exact ⟨k + 1, by omega, by go_num, HN, hu, hq⟩
          case measure => simp [RowKit.intOf]; omega
        | false =>
          have HN := Lib.hid (show R = (match dfsF (candE A m L) anyP (d + 1) (p ++ [x]) with | some q => some q | none => tryL (fun v => dfsF (candE A m L) anyP (d + 1) (p ++ [v])) (((bitsN am).drop (k + 1)).filter (okE m L p))) by rw [HK.out, HOKk.out, HOKx.out]; rfl)
          clear HOKk HOKx HK
          have hB := hq.size
          have hcl2 := fun (W : World) (hb : Below wr.heap.size wr W) => cloneI_any (hoR.below hb (Nat.le_refl _)) (by omega)
          have hcl3 := hcl2 wr (Below.refl _ _)
          have HHI := Lib.hid (fun (v' : Value) (W : World) => HIH.out (p ++ [x]) wr.heap.size v' W)
          have HX := Lib.hid (show (natsI (p ++ [x])).map (Value.int .i64) = (natsI p).map (Value.int .i64) ++ [.int .i64 (x : Int)] by simp [natsI])
          clear hcl2
          go_wp2_with (first | (go_at_call 107; refine hha.mono ?_; rintro e w' ⟨rfl, rfl⟩) | (go_at_call 186; refine hco.mono ?_; rintro e w' ⟨rfl, rfl⟩) | fail)
          with_reducible refine hcl3.mono ?_
          rintro e w2 ⟨c, rfl, hc, hb2⟩
          go_wp2_with (first | (at_builtin; refine wpList_append1 elInt rfl _ _ rfl hc rfl rfl rfl (by omega) hb2.size ?_; intro v3 w3 hc3 hkept hmv) | fail)
          have hb3 : Below wr.heap.size wr w3 := hkept.below hb2 hb2.size (fun b hb => (hc.lt b hb).1)
          have hq3 := hq.trans (hb3.mono hB)
          have hgr := HHI.out v3 w3 (ht.below hq3 (Nat.le_refl _)) (by simp; omega) (by simp) (fun y hy => by
            rcases List.mem_append.1 hy with hy | hy
            · exact hpn y hy
            · simp at hy; subst hy; exact hxA) (hl.below hq3 (Nat.le_refl _)) (by rw [HX.out, List.length_append, List.length_singleton]; exact hc3)
          have hu3 := hu.below hb3 (Nat.le_refl _)
          with_reducible refine hgr.mono ?_
          rintro e w4 ⟨fa, fn, fc, rfl, hfs, hfo, hb4⟩
          have hq4 := hq3.trans (hb4.mono hq3.size)
          have hu4 := hu3.below hb4 (Nat.le_refl _)
          have HFO := Lib.hid hfo
          have hB3 := hq3.size
          clear hgr hfo HHI hc3 hkept hmv hc hcl3 hha
          generalize dfsF (candE A m L) anyP (d + 1) (p ++ [x]) = o at *
          cases o with
          | some q =>
            have hfs : (!fa.isNone) = true := hfs
            have HR := Lib.hid (show R = some q from HN.out)
            clear HN
            go_wp2
            go_ret
            exact ⟨fa, fn, fc, rfl, by rw [HR.out]; exact hfs, (fun q' h => by
              rw [HR.out] at h
              cases h
              exact (HFO.out _ rfl).weak hB3), hq4⟩
          | none =>
            have hfs : (!fa.isNone) = false := hfs
            have HN2 := Lib.hid (show R = tryL (fun v => dfsF (candE A m L) anyP (d + 1) (p ++ [v])) (((bitsN am).drop (k + 1)).filter (okE m L p)) from HN.out)
            clear HN
            go_wp2
            go_roundw
            case rel => exact ⟨k + 1, by omega, by go_num, HN2, hu4, hq4⟩
            case measure => simp [RowKit.intOf]; omega
/-- What the next ear is, or that there is none. -/
def NextR (E : TypeId) (G : List Nat → Prop) (w : World) (e : Ending) (w' : World) : Prop := ∃ o : Option (List Nat), GrowR E w o e w' ∧ (∀ q, o = some q → LeastG G q) ∧ (o = none → ∀ q, ¬ G q)
set_option maxRecDepth 100000 in
set_option maxHeartbeats 8000000 in
theorem smallestEar_any {lv : Value} {g : List (List Int)} {m : Nat} {U : List NP} {w : World} (hg : GOk g) (hm0 : m ≠ 0) (hm : m < 2 ^ g.length) (ht : Tab w) (hl : SlI (fun _ => True) w .u32 lv (natsI (leftN g U))) :
    Calls Tryd.prog 76 #[lv, .int .u32 (m : Int)] w (NextR 3 (EarG g m U) w) := by
  have h16 := hg.hi
  have hAl := leftN_len g U
  have hm32 := Nat.lt_trans hm (pow16_lt h16)
  have HFR := Lib.hid (show fromN m = bitsN m by unfold fromN; rw [if_neg hm0])
  have hgr := fun (L : Nat) (hL : L ≤ 16) => growEar_any (lv := lv) (A := leftN g U) (m := m) (L := L) (by rw [hAl]; exact h16) (fun x hx => by
    rw [hAl]
    obtain ⟨u, hu, rfl⟩ := List.getElem_of_mem hx
    refine lt_bits fun i hi => ?_
    have := (left_iff hg (U := U) (u := u) (v := i)).1 (by simpa [hu] using hi)
    exact (nets_symN hg this.1).2.1) (by rw [hAl]; exact hm) hL
  have HGR := Lib.hid hgr
  have HG := Lib.hid hg
  have HM0 := Lib.hid hm0
  have HM := Lib.hid hm
  have HN0 : RowKit.Hid (NoF (EarG g m U) (fromN m) 2 0) := Lib.hid (NoF.start fun q hq => ⟨(ear_from hg hm hq).1, (ear_from hg hm hq).2.2⟩)
  obtain ⟨la, lc, rfl⟩ := hl.slice
  rw [natsI_len, hAl] at *
  have HL := Lib.hid hl
  have hbl : (bitsN m).length ≤ 32 := popN_32 m
  have hls := fun (W : World) (hb : Below w.heap.size w W) => list_any m W (ht.below hb (Nat.le_refl _)) hm32
  rw [show bitsI m = natsI (bitsN m) by simp [bitsI, natsI]] at hls
  rw [natsI_len] at hls
  have hnq : ∀ (w : World) (a : Option Addr) (l c : Nat), (binOp .neq 84 (.slice a l c) (.slice none 0 0)).run Tryd.prog w = .ok (.bool (!a.isNone)) w := fun w a l c => run_neq_slice_nil w _ _ a l c Tryd.underlying84
  clear hgr hAl hm0 hl
  go_enter Tryd.func76, Tryd.ntmps76
  go_wp2
  go_loopw [5] (fun lv wr => ∃ L : Nat, 2 ≤ L ∧ L ≤ g.length + 2 ∧ lv = .int .i64 L ∧ RowKit.Hid (NoF (EarG g m U) (fromN m) L 0) ∧ Below w.heap.size w wr) (fun lv _ => g.length + 2 - (RowKit.intOf lv).toNat)
  case atStart => exact ⟨2, by omega, by omega, rfl, HN0, Below.refl _ _⟩
  case round =>
    clear HN0
    obtain ⟨L, hL2, hLn, rfl, HNO, hq⟩ := hrel
    obtain ⟨wo, rfl⟩ : ∃ wx : World, wx = wr := ⟨_, rfl⟩
    by_cases hlt : L ≤ g.length
    case neg =>
      have HE := Lib.hid (show ∀ q, ¬ EarG g m U q from fun q hqq => by
        have h1 := (ear_from HG.out HM.out hqq).2.1
        rcases HNO.out q hqq with h2 | ⟨h2, -⟩ <;> omega)
      go_wp2
      go_ret
      exact ⟨none, ⟨none, 0, 0, rfl, rfl, (fun q h => by cases h), hq⟩, (fun q h => by cases h), fun _ => HE.out⟩
    have hd1 : decide ((L : Int) ≤ (g.length : Int)) = true := decide_eq_true (by omega)
    have hls2 := hls wo hq
    go_wp2_with fail
    with_reducible refine hls2.mono ?_
    rintro e w1 ⟨u, rfl, hu, hb1⟩
    obtain ⟨ua, uc, rfl⟩ := hu.isSlice
    have hq1 := hq.trans (hb1.mono hq.size)
    have hu1 := hu.weak hq.size
    clear hu hls2 hb1
    go_wp2
    go_loopw [18] (fun iv wr => ∃ k : Nat, k ≤ (bitsN m).length ∧ iv = .int .i64 k ∧ RowKit.Hid (NoF (EarG g m U) (fromN m) L k) ∧ Own wr w.heap.size 3 1 (.slice ua (bitsN m).length uc) (bitsN m).length ((natsI (bitsN m)).map (.int .i64)) ∧ Below w.heap.size w wr) (fun iv _ => (bitsN m).length - (RowKit.intOf iv).toNat)
    case atStart => exact ⟨0, Nat.zero_le _, rfl, HNO, hu1, hq1⟩
    case round =>
      clear hu1 hq1 HNO
      obtain ⟨k, hk, rfl, HNK, hu, hqi⟩ := hrel
      by_cases hlk : k < (bitsN m).length
      case neg =>
        obtain rfl : k = (bitsN m).length := by omega
        have HNX := Lib.hid (show NoF (EarG g m U) (fromN m) (L + 1) 0 from NoF.long (by have := HNK.out; rw [HFR.out] at this ⊢; exact this) (fun q hqq => (ear_from HG.out HM.out hqq).2.2))
        go_wp2
        go_roundw
        case rel => exact ⟨L + 1, by omega, by omega, by go_num, HNX, hqi⟩
        case measure => simp [RowKit.intOf]; omega
      have hui := Own.ints (xs := natsI (bitsN m)) (k := .i64) hu (by omega)
      obtain ⟨ub, uo, uc2, hue, huc⟩ := hui.at_
      have hue := hue (by rw [natsI_len]; omega)
      simp only [Value.slice.injEq] at hue
      obtain ⟨rfl, -, rfl⟩ := hue
      have f1 : wr.cell? ⟨ub, uo + k, none⟩ = some (.int .i64 ((bitsN m)[k] : Int)) := by
        rw [huc k (by rw [natsI_len]; exact hlk), natsI_get]
      have hkF : k < (fromN m).length := by rw [HFR.out]; exact hlk
      have hxA : (bitsN m)[k] < g.length := bit_lt_of HM.out ((mem_bitsN hm32).1 (List.getElem_mem hlk))
      have HFK := Lib.hid (show (fromN m)[k]'hkF = (bitsN m)[k] by simp [HFR.out])
      have HF := Lib.hid (fun q => foundE (g := g) (U := U) (L := L) (q := q) HG.out HM0.out HM.out hkF hL2 HNK.out)
      have HNF := Lib.hid (fun h => HNK.out.next hkF (nothingE (g := g) (U := U) (L := L) HG.out HM0.out hkF h))
      rw [HFK.out] at HF HNF
      clear hui huc HFK HNK
      generalize (bitsN m)[k] = x at *
      obtain ⟨d, hd⟩ : ∃ d, L = d + 2 := ⟨L - 2, by omega⟩
      have hb2 : Below wr.heap.size wr (wr.alloc (.cells #[.int .i64 (x : Int)] 3)) := (Below.refl _ _).alloc (Nat.le_refl _) _
      have hq2 := hqi.trans (hb2.mono hqi.size)
      have hgrow := HGR.out L (by omega) d [x] wr.heap.size (.slice (some ⟨wr.heap.size, 0, none⟩) 1 1) _ (ht.below hq2 (Nat.le_refl _)) (by simp; omega) (by simp) (by simpa using hxA) (HL.out.below hq2 (Nat.le_refl _)) (by
        have := own_new wr wr.heap.size 3 (.int .i64 (x : Int)) (Nat.le_refl _)
        simpa [natsI] using this)
      rw [show d + 1 = L - 1 by omega] at hgrow
      have hu2 := hu.below hb2 (Nat.le_refl _)
      clear hb2 hd
      go_wp2_with fail
      with_reducible refine hgrow.mono ?_
      rintro e w4 ⟨fa, fn, fc, rfl, hfs, hfo, hb4⟩
      have hq4 := hq2.trans (hb4.mono hq2.size)
      have hu4 := hu2.below hb4 (Nat.le_refl _)
      have HFO := Lib.hid hfo
      have hB2 := hq2.size
      clear hgrow hfo hu2
      generalize dfsF (candE (leftN g U) m L) anyP (L - 1) [x] = o at *
      cases o with
      | some q =>
        have hfs : (!fa.isNone) = true := hfs
        have HR := Lib.hid (HF.out q rfl)
        clear HF HNF
        go_wp2
        go_ret
        exact ⟨some q, ⟨fa, fn, fc, rfl, hfs, (fun q' h => (HFO.out q' h).weak hB2), hq4⟩, (fun q' h => by cases h; exact HR.out), fun h => by cases h⟩
      | none =>
        have hfs : (!fa.isNone) = false := hfs
        have HN2 := Lib.hid (HNF.out rfl)
        clear HF HNF
        go_wp2
        go_roundw
        case rel => exact ⟨k + 1, by omega, by go_num, HN2, hu4, hq4⟩
        case measure => simp [RowKit.intOf]; omega
/-- Rows stay where a block of other elements changes. -/
theorem OwnR.keptE {w w' : World} {B C B' s n : Nat} {EO EI E : TypeId} {u v : Value} {g : List (List Int)} {xs : List Value} (h : OwnR w B C EO EI u g) (h' : Own w B' E s v n xs) (h1 : EO ≠ E) (h2 : EI ≠ E) (hk : KeptBut w w' v.ownBlock) : OwnR w' B C EO EI u g := by
  obtain ⟨vs, a1, a2, a3, hap, a4⟩ := h
  exact ⟨vs, a1, a2.otherT h' h1 hk, a3, hap, fun i hi hi2 => ⟨(a4 i hi hi2).1.otherT h' h2 hk, (a4 i hi hi2).2⟩⟩
theorem ear_nat (q : List Nat) : natsOf (natsI q) = q := by
  unfold natsOf natsI
  rw [List.map_map]
  conv => rhs; rw [← List.map_id q]
  exact List.map_congr_left fun x _ => by simp
theorem ear_small {g : List (List Int)} {m : Nat} {U : List NP} {q : List Nat} (h : EarG g m U q) : ∀ x ∈ natsI q, 0 ≤ x ∧ x < (g.length : Int) := fun x hx => by
  obtain ⟨y, hy, rfl⟩ := List.mem_map.1 hx
  have := (earB_iff.1 h.1).2.1 y hy
  omega
/-- The first ear, by the search for loops. -/
theorem first_found {g : List (List Int)} (hg : GOk g) {L : Nat} {D : Nat → Int} (h0 : 0 < g.length) (hD : IsDist (netsL g) (firstN g.length) 0 g.length D) (hL : 3 ≤ L) {q : List Nat} (hno : ∀ q, EarG g 0 [] q → L ≤ q.length)
    (h : dfsF (candN (netsL g) (farF ((List.range g.length).map D)) L noFit) (finN (netsL g)) (L - 1) [0] = some q) : LeastG (EarG g 0 []) q := by
  have hN : NetI (netsL g) := ⟨by rw [netsL_len]; exact hg.hi, by rw [netsL_len]; exact (WideI.of hg).lt, by rw [netsL_len]; exact fun x y _ _ hb => (nets_symN hg hb).2.2.2⟩
  have hl : (netsL g).length = g.length := netsL_len g
  obtain ⟨t, rfl, he, hm⟩ := dfs_some (cand_sorted _ _ _ _) h
  obtain ⟨h1, h2, h3, -⟩ := ext_path hN.lt hN.le (PathN.one (by omega)) he
  rw [hl] at h1
  have hlen : ([0] ++ t).length = L := by simp; omega
  refine least_at (L := L) (v := 0) (fun q' hq' => ?_) (loop_ear hg ⟨h1, by omega, h2⟩ rfl) hlen rfl (by omega) fun q' hq' hl' h0' => ?_
  · have := hno q' hq'
    by_cases e : L = q'.length
    · exact .inr ⟨e, Nat.zero_le _⟩
    · exact .inl (by omega)
  · obtain ⟨t', rfl⟩ := split_start (by omega) h0'
    obtain ⟨hloop, -⟩ := ear_loop hg hq'
    have hlt' : t'.length = L - 1 := by simp at hl'; omega
    have hlt0 : 0 < (netsL g).length := by omega
    have hfar := loop_far (hN.dist hlt0) (by rw [hl]; exact hD) (fun x hx => first_bit hx) hN.sym (by rw [hl]; exact hloop) rfl
    have he' := path_ext hN.lt hN.le (far := farF ((List.range g.length).map D)) (L := L) (ft := noFit) (t := t') (p := [0]) (by simp) (by rw [hl]; exact hloop.path) hloop.cl (fun i hi => ?_) (fun i hi => rfl)
    · rw [hlt'] at he'
      have := hm t' he'
      rw [← ltN_app [0] t' t] at this
      simpa using this
    · have hx := hloop.path.lt _ (getD_mem (p := 0 :: t') (i := i + 1) (by simp; omega))
      have e : (0 :: t').getD (i + 1) 0 = t'.getD i 0 := rfl
      have h4 := hfar (i + 1) (by omega) (by simp; omega)
      rw [e] at hx h4
      rw [farF_range hx]
      rw [hl'] at h4
      simp only [List.length_singleton]
      exact ⟨h4.1, by omega⟩
theorem first_none {g : List (List Int)} (hg : GOk g) {L : Nat} {D : Nat → Int} (h0 : 0 < g.length) (hD : IsDist (netsL g) (firstN g.length) 0 g.length D) (hL : 3 ≤ L) (hno : ∀ q, EarG g 0 [] q → L ≤ q.length)
    (h : dfsF (candN (netsL g) (farF ((List.range g.length).map D)) L noFit) (finN (netsL g)) (L - 1) [0] = none) : ∀ q, EarG g 0 [] q → L + 1 ≤ q.length := fun q' hq' => by
  have hN : NetI (netsL g) := ⟨by rw [netsL_len]; exact hg.hi, by rw [netsL_len]; exact (WideI.of hg).lt, by rw [netsL_len]; exact fun x y _ _ hb => (nets_symN hg hb).2.2.2⟩
  have hl : (netsL g).length = g.length := netsL_len g
  have h1 := hno q' hq'
  apply Classical.byContradiction
  intro hc
  have hl' : q'.length = L := by omega
  obtain ⟨hloop, h0'⟩ := ear_loop hg hq'
  obtain ⟨t', rfl⟩ := split_start (by omega) h0'
  have hlt' : t'.length = L - 1 := by simp at hl'; omega
  have hlt0 : 0 < (netsL g).length := by omega
  have hfar := loop_far (hN.dist hlt0) (by rw [hl]; exact hD) (fun x hx => first_bit hx) hN.sym (by rw [hl]; exact hloop) rfl
  have he' := path_ext hN.lt hN.le (far := farF ((List.range g.length).map D)) (L := L) (ft := noFit) (t := t') (p := [0]) (by simp) (by rw [hl]; exact hloop.path) hloop.cl (fun i hi => ?_) (fun i hi => rfl)
  · rw [hlt'] at he'
    exact dfs_none h t' he'
  · have hx := hloop.path.lt _ (getD_mem (p := 0 :: t') (i := i + 1) (by simp; omega))
    have e : (0 :: t').getD (i + 1) 0 = t'.getD i 0 := rfl
    have h4 := hfar (i + 1) (by omega) (by simp; omega)
    rw [e] at hx h4
    rw [farF_range hx]
    rw [hl'] at h4
    simp only [List.length_singleton]
    exact ⟨h4.1, by omega⟩
/-- Where both programs stand behind some ears. -/
structure StE (g : List (List Int)) (out : List (List Nat)) (m : Nat) (U : List NP) : Prop where
  use : UseI g m U out.length
  run : earsL g = out ++ runE g (600 - out.length) m U
theorem StE.start {g : List (List Int)} (h : twoB g = true) : StE g [] 0 [] := ⟨UseI.start g, by rw [earsL, if_pos h]; rfl⟩
theorem StE.few {g : List (List Int)} (hg : GOk g) {out : List (List Nat)} {m : Nat} {U : List NP} (h : StE g out m U) : out.length ≤ 256 := by
  have h1 := h.use.many
  have h2 := h.use.inv.le hg
  have h3 := endsN_le hg
  omega
theorem StE.next {g : List (List Int)} (hg : GOk g) {out : List (List Nat)} {m : Nat} {U : List NP} (h : StE g out m U) {q : List Nat} (hq : LeastG (EarG g m U) q) :
    StE g (out ++ [q]) (m ||| maskL (natsI q)) (useU U (stepsN q (decide (m = 0)))) ∧ m ||| maskL (natsI q) ≠ 0 := by
  have hl : U.length ≠ endsN g := fun e => h.use.full hg e q hq.1
  have h1 := h.use.next hg hq.1
  have hf := h.few hg
  refine ⟨⟨by rw [List.length_append, List.length_singleton]; exact h1.1, ?_⟩, h1.2⟩
  rw [h.run, List.length_append, List.length_singleton]
  obtain ⟨k, hk⟩ : ∃ k, 600 - out.length = k + 1 := ⟨600 - out.length - 1, by omega⟩
  rw [hk, run_step hl hq, show 600 - (out.length + 1) = k by omega, List.append_assoc]
  rfl
theorem StE.done {g : List (List Int)} {out : List (List Nat)} {m : Nat} {U : List NP} (h : StE g out m U) (hl : U.length = endsN g) : earsL g = out := by rw [h.run, run_end hl, List.append_nil]
set_option maxRecDepth 100000 in
set_option maxHeartbeats 16000000 in
theorem implEarsOf_any {S : Nat → Prop} {v : Value} {g : List (List Int)} {w : World} (ht : Tab w) (hv : SlR S w v g) :
    Calls Tryd.prog 19 #[.agg #[v]] w fun e w' => ∃ u, e = .returned (.tuple #[u, .bool (twoB g)]) ∧ OwnR w' w.heap.size w'.heap.size 51 2 u ((earsL g).map natsI) ∧ Below w.heap.size w w' := by
  obtain ⟨va, vc, rfl⟩ := hv.slice
  have hb0 : Below w.heap.size w (w.alloc (.cells #[.slice va g.length vc] 27)) := (Below.refl _ _).alloc (Nat.le_refl _) _
  have c0 : (w.alloc (.cells #[.slice va g.length vc] 27)).cell? ⟨w.heap.size, 0, none⟩ = some (.slice va g.length vc) := by simp [go_sem]
  have htw := implTwoConnectedIn_any _ _ _ (ht.below hb0 (Nat.le_refl _)) (hv.below hb0 (Nat.le_refl _))
  by_cases h2 : twoB g = true
  case neg =>
    have h2' : twoB g = false := by simpa using h2
    have HE := Lib.hid (show earsL g = [] by rw [earsL, if_neg h2])
    rw [h2'] at htw ⊢
    clear h2 h2'
    go_enter Tryd.func19, Tryd.ntmps19
    go_wp2_with fail
    refine htw.mono ?_
    rintro e w1 ⟨rfl, hb1⟩
    go_wp2
    refine bodyPost_ret (v := .tuple #[.slice none 0 0, .bool false]) (by simp [results, Tryd.results19, go_sem]) rfl ⟨_, rfl, by rw [HE.out]; exact ⟨[], rfl, Own.nil _ _ _ _, fun b hb => by simp [Value.ownBlock] at hb, ApartL.nil, fun i hi => by simp at hi⟩, hb0.trans (hb1.mono hb0.size)⟩
  have hTG := two_of h2
  have hg := hTG.gok
  have h16 := hg.hi
  have h3 := hTG.three
  have HST := Lib.hid (StE.start h2)
  have HTG := Lib.hid hTG
  have HG := Lib.hid hg
  have HNO0 := Lib.hid (show ∀ q, EarG g 0 [] q → 3 ≤ q.length from fun q hq => (ear_loop hg hq).1.three)
  have HEX := Lib.hid (first_ear hTG)
  have HEF := Lib.hid (fun q => ear_from (g := g) (m := 0) (U := []) (q := q) hg (Nat.two_pow_pos _))
  rw [h2] at htw ⊢
  have hlN := netsL_len g
  have HN : RowKit.Hid (NetI (netsL g)) := Lib.hid ⟨by rw [netsL_len]; exact hg.hi, by rw [netsL_len]; exact (WideI.of hg).lt, by rw [netsL_len]; exact fun x y _ _ hb => (nets_symN hg hb).2.2.2⟩
  have ent : ∀ (args : Array Value) (w : World), (callFunc 71 args).run Tryd.prog w = .ok (.enter 71 args) w := fun args w => run_enter Tryd.func71 (by kernel_rfl) rfl args w
  have hnt := fun (W : World) (hb : Below w.heap.size w W) => netsOf_any _ g W (hv.below hb (Nat.le_refl _)) hg
  clear h2 hTG hg
  go_enter Tryd.func19, Tryd.ntmps19
  go_wp2_with fail
  refine htw.mono ?_
  rintro e w1 ⟨rfl, hb1⟩
  have hq1 := hb0.trans (hb1.mono hb0.size)
  have c1 := (hb1.cell (cell_lt c0)).trans c0
  clear htw hb0 hb1 c0
  have hn1 := hnt w1 hq1
  go_wp2_with fail
  refine hn1.mono ?_
  rintro e w2 ⟨lv, rfl, hl0, hb2⟩
  have hq2 := hq1.trans (hb2.mono hq1.size)
  have c2 := (hb2.cell (cell_lt c1)).trans c1
  have hs1 : w.heap.size + 1 ≤ w1.heap.size := cell_lt c1
  have hl := hl0.weak hs1
  rw [← leftN_start] at hl
  obtain ⟨lb, lc, rfl⟩ := own_some hl (by omega)
  have hbA : Below w2.heap.size w2 (w2.alloc (.cells #[] 51)) := (Below.refl _ _).alloc (Nat.le_refl _) _
  have hqA := hq2.trans (hbA.mono hq2.size)
  have cA := (hbA.cell (cell_lt c2)).trans c2
  have hlA := hl.below hbA (Nat.le_refl _)
  have hs2 := hb2.size
  have hoA : OwnR (w2.alloc (.cells #[] 51)) (w.heap.size + 1) (w2.alloc (.cells #[] 51)).heap.size 51 2 (.slice (some ⟨w2.heap.size, 0, none⟩) 0 0) [] :=
    ⟨[], rfl, World.ownsRow_lit (base := w.heap.size + 1) (e := 51) (size := 1) w2 #[] 0 (by omega) (by unfold maxLen; omega) rfl, fun b hb => by (have : w2.heap.size = b := by simpa [Value.ownBlock] using hb); simp; omega, ApartL.nil, fun i hi => by simp at hi⟩
  have hn2 := hnt _ hqA
  clear hn1 hnt hl0 hb2 c1 hq1 hl
  go_wp2_with fail
  generalize w2.alloc (.cells #[] 51) = wA at *
  generalize w2.heap.size = ob0 at *
  refine hn2.mono ?_
  rintro e w3 ⟨av, rfl, ha0, hb3⟩
  have hq3 := hqA.trans (hb3.mono hqA.size)
  have c3 := (hb3.cell (cell_lt cA)).trans cA
  have hl3 := hlA.below hb3 (Nat.le_refl _)
  have ho3 := (hoA.below hb3 (Nat.le_refl _)).weaken (Nat.le_refl _) hb3.size
  have ha3 := ha0.weak (show w.heap.size + 1 ≤ wA.heap.size from cell_lt cA)
  obtain ⟨ab, ac, rfl⟩ := own_some ha3 (by omega)
  clear hn2 ha0 hb3 cA hlA hoA hqA hbA c2 hq2
  go_wp2
  go_loopw [8, 6] (fun iv ov wr => ∃ L : Nat, 3 ≤ L ∧ L ≤ g.length + 1 ∧ iv = .int .i64 L ∧ ov = .slice (some ⟨ob0, 0, none⟩) 0 0 ∧ RowKit.Hid (∀ q, EarG g 0 [] q → L ≤ q.length) ∧ Below w.heap.size w wr ∧ wr.cell? ⟨w.heap.size, 0, none⟩ = some (.slice va g.length vc) ∧
    Own wr (w.heap.size + 1) 82 1 (.slice (some ⟨lb, 0, none⟩) g.length lc) g.length ((natsI (leftN g [])).map (.int .u32)) ∧ Own wr (w.heap.size + 1) 82 1 (.slice (some ⟨ab, 0, none⟩) g.length ac) g.length ((natsI (netsL g)).map (.int .u32)) ∧
    OwnR wr (w.heap.size + 1) wr.heap.size 51 2 (.slice (some ⟨ob0, 0, none⟩) 0 0) []) (fun iv _ _ => g.length + 1 - (RowKit.intOf iv).toNat)
  case atStart => exact ⟨3, by omega, by omega, rfl, rfl, HNO0, hq3, c3, hl3, ha3, ho3⟩
  case round =>
    clear HNO0 hq3 c3 hl3 ha3 ho3
    obtain ⟨L, hL3, hLn, rfl, rfl, HNO, hq, cg, hl, ha, ho⟩ := hrel
    obtain ⟨wo, rfl⟩ : ∃ wx : World, wx = wr := ⟨_, rfl⟩
    by_cases hlt : L ≤ g.length
    case neg =>
      exfalso
      obtain ⟨q, hqq⟩ := HEX.out
      have h1 := HNO.out q hqq
      have h2 := (HEF.out q hqq).2.1
      omega
    have hd1 : decide ((L : Int) ≤ (g.length : Int)) = true := decide_eq_true (by omega)
    have hai := Own.ints (xs := natsI (netsL g)) (k := .u32) ha (by omega)
    have hdi := HN.out.dist (v := 0) (by rw [hlN]; omega)
    rw [hlN] at hdi
    have hdis := distances_any (ht.below hq (Nat.le_refl _)) hdi hai
    go_wp2_with fail
    refine (allOf_any _ _ _ _ h16).mono ?_
    rintro e w1 ⟨rfl, rfl⟩
    go_wp2_with fail
    refine hdis.mono ?_
    rintro e w1 ⟨ob, D, rfl, hob, hrow, hD, hb1⟩
    have hq1 := hq.trans (hb1.mono hq.size)
    go_wp2_with (go_at_call 70; refine (one_any _ _ (by omega) (by omega)).mono ?_; rintro e w' ⟨rfl, rfl⟩)
    obtain ⟨W, hW⟩ : ∃ W, W = (w1.alloc (.cells #[.int .i64 0] 3)).alloc (.cells #[.slice (some ⟨ab, 0, none⟩) g.length ac, .slice (some ⟨ob, 0, none⟩) g.length g.length, .int .i64 (L : Int), .slice (some ⟨w1.heap.size, 0, none⟩) 1 1, .int .u32 (bit 0 : Int), .func (Fn.func 71) #[] #[]] 90) := ⟨_, rfl⟩
    have hb2 : Below w1.heap.size w1 W := by rw [hW]; exact ((Below.refl _ _).alloc (Nat.le_refl _) _).alloc (by simp) _
    have hsz : W.heap.size = w1.heap.size + 2 := by rw [hW]; simp
    have hG : GL (fun b => b < w1.heap.size) 3 90 W w1.heap.size (w1.heap.size + 1) (.slice (some ⟨ab, 0, none⟩) g.length ac) (.slice (some ⟨ob, 0, none⟩) g.length g.length) (.func (Fn.func 71) #[] #[]) L (.slice (some ⟨w1.heap.size, 0, none⟩) 1 1) [0] := by
      refine ⟨?_, ?_, fun b hb => ?_, by omega⟩
      · rw [hW]
        have hr := World.ownsRow_lit (base := w1.heap.size) (e := 90) (size := 6) (w1.alloc (.cells #[.int .i64 0] 3)) #[.slice (some ⟨ab, 0, none⟩) g.length ac, .slice (some ⟨ob, 0, none⟩) g.length g.length, .int .i64 (L : Int), .slice (some ⟨w1.heap.size, 0, none⟩) 1 1, .int .u32 (bit 0 : Int), .func (Fn.func 71) #[] #[]] 1 (by simp) (by unfold maxLen; omega) rfl
        simpa [maskN, Own] using hr
      · rw [hW]
        have hr := (own_new w1 w1.heap.size 3 (.int .i64 0) (Nat.le_refl _)).alloc (.cells #[.slice (some ⟨ab, 0, none⟩) g.length ac, .slice (some ⟨ob, 0, none⟩) g.length g.length, .int .i64 (L : Int), .slice (some ⟨w1.heap.size, 0, none⟩) 1 1, .int .u32 (bit 0 : Int), .func (Fn.func 71) #[] #[]] 90)
        simpa [natsI] using hr
      · have : w1.heap.size = b := by simpa [Value.ownBlock] using hb
        exact ⟨by omega, by omega⟩
    have hXK : XK (fun b => b < w1.heap.size) w1 W := ⟨hb2.size, fun b hb => hb2.block b hb⟩
    have ha1 := ha.below hb1 (Nat.le_refl _)
    have hl1 := hl.below hb1 (Nat.le_refl _)
    have ho1 := (ho.below hb1 (Nat.le_refl _)).weaken (Nat.le_refl _) hb1.size
    have cg1 := (hb1.cell (cell_lt cg)).trans cg
    have hv1 := (Own.ints (xs := natsI (netsL g)) (k := .u32) ha1 (by omega)).lowS
    have hrl := row_list hrow (by omega)
    have hobl : ob < w1.heap.size := hrow.lt (by omega)
    have ht1 := ht.below hq1 (Nat.le_refl _)
    have hgr := lgrow_any (X := fun b => b < w1.heap.size) (N := 71) (cb := #[]) (w0 := w1) (n := g.length) (B := w1.heap.size) (sb := w1.heap.size + 1) (ft := noFit) (L := L) (Dl := (List.range g.length).map D) (H := netsL g) ent
      (fun W' hX' => ⟨(hv1.keep fun b hb => hX'.2 b hb).weak fun _ _ => trivial, (hrl.keep fun b hb => hX'.2 b (by rw [hb]; exact hobl)).weak fun _ _ => trivial, fun i hi => (cell_heap (hX'.2 0 (by have := cell_lt (ht1 i hi); simpa using this))).trans (ht1 i hi)⟩)
      (fun p v pv W' _ _ _ _ _ => (anyVertex_any (w := W') (pv := pv) (x := .int .i64 (v : Int))).mono fun e w' h => ⟨h.1, by rw [h.2]; exact Below.refl _ _⟩)
      (fun b hb => hb) (by rw [← hlN]; exact HN.out.lt) h16 hlN.symm (by simp) (by omega) (L - 1) [0] _ W (by simp; omega) (PathN.one (by omega)) hXK hG (by omega)
    rw [hW] at hgr
    have HF := Lib.hid (fun (q : List Nat) => first_found (q := q) HG.out (by omega) hD hL3 HNO.out)
    have HNF := Lib.hid (first_none HG.out (by omega) hD hL3 HNO.out)
    clear hG hXK hv1 hrl hrow hD hdis hdi hai ha hl ho hq cg ht1 hobl hob
    refine hgr.mono ?_
    clear hgr
    rintro e w3 ⟨pv, rfl, hG3, hK3, -⟩
    rw [← hW] at hK3
    have hq1s := hq1.size
    have hK4 : ∀ b, b < w1.heap.size → w3.heap[b]? = w1.heap[b]? := fun b hb => (hK3.block b (by omega) (fun h => by
      rcases h with h | h
      · omega
      · have : w1.heap.size = b := by simpa [Value.ownBlock] using h
        omega)).trans (hb2.block b hb)
    have hbw : Below w1.heap.size w1 w3 := ⟨hK3.os.trans hb2.os, hK3.tape.trans hb2.tape, hK3.output.trans hb2.output, Nat.le_trans hb2.size hK3.size, hK4⟩
    have hq3 := hq1.trans (hbw.mono hq1.size)
    have ha3 := ha1.below hbw (Nat.le_refl _)
    have hl3 := hl1.below hbw (Nat.le_refl _)
    have ho3 := (ho1.below hbw (Nat.le_refl _)).weaken (Nat.le_refl _) hbw.size
    have cg3 := (hbw.cell (cell_lt cg1)).trans cg1
    clear hW hb2 hK3 hK4 ha1 hl1 ho1 cg1
    generalize dfsF (candN (netsL g) (farF ((List.range g.length).map D)) L noFit) (finN (netsL g)) (L - 1) [0] = o at *
    cases o with
    | none =>
      have HNO2 := Lib.hid (HNF.out rfl)
      clear HF HNF hG3
      simp only [Option.isSome_none]
      go_wp2
      go_roundw
      case rel => exact ⟨L + 1, by omega, by omega, by go_num, rfl, HNO2, hq3, cg3, hl3, ha3, ho3⟩
      case measure => simp [RowKit.intOf]; omega
    | some q =>
      have hle := HF.out q rfl
      have hlo := (ear_loop HG.out hle.1).1
      have hqL := (HEF.out q hle.1).2.1
      have hq0 : 0 < q.length := by have := hlo.three; omega
      simp only [Option.isSome_some, Option.getD_some] at hG3 ⊢
      obtain ⟨c0, c1, c2, c3, c4, c5, hfz, hsB, hsl⟩ := row6 hG3.row
      have hown := hG3.own
      obtain ⟨gb, gc, rfl⟩ := own_some hown hq0
      have HLE := Lib.hid hle
      have hqi := Own.ints (xs := natsI q) (k := .i64) hown (by omega)
      clear HF HNF HNO hle hlo c0 c1 c2 c4 c5 hG3
      have hwd := wide_any hqi (by rw [natsI_len]; omega)
      rw [natsI_len] at hwd
      clear hqi hown
      go_wp2_with fail
      refine hwd.mono ?_
      rintro e w4 ⟨r, rfl, hr, hb4⟩
      obtain ⟨ra, rc, rfl⟩ := hr.isSlice
      have hq4 := hq3.trans (hb4.mono hq3.size)
      have hl4 := hl3.below hb4 (Nat.le_refl _)
      have ho4 := ho3.below hb4 (Nat.le_refl _)
      have cg4 := (hb4.cell (cell_lt cg3)).trans cg3
      have hq3s := hq3.size
      have hb4s := hb4.size
      have hcg4 := cell_lt cg4
      have hcg3 := cell_lt cg3
      simp only at hcg4 hcg3
      clear ho3 hl3 cg3 ha3 hwd hfz c3 hsB hsl
      obtain ⟨vs, hvl, hvo, hvC, hap, hrows⟩ := ho4
      rw [List.length_nil] at hvl hvo
      go_wp2_with (first | (at_builtin; refine wpList_append1b elRows rfl _ _ rfl hvo rfl rfl rfl rfl (by omega) (by omega) ?_; intro o5 w5 hown5 hkept hmv; have hl5 := hl4.otherT hvo (by decide) hkept; have cg5 := (World.cell?_of_block (a := ⟨w.heap.size, 0, none⟩) (hkept.2.2.2.2 w.heap.size hcg4 (fun e => by have := (hvo.lt _ e.symm).1; omega))).trans cg4; obtain ⟨ob5, oc5, rfl⟩ := own_some hown5 (by omega)) | fail)
      have hS5 : OwnR w5 (w.heap.size + 1) w5.heap.size 51 2 (.slice (some ⟨ob5, 0, none⟩) 1 oc5) [natsI q] := by
        have := ownR_snoc (C := w3.heap.size) (g := []) (r := natsI q) (v := .slice ra q.length rc) hvl hb4.size hap hrows hvC hown5 (by rw [natsI_len]; exact hr.weak (by omega)) (fun b hb => hr.ge b hb) hkept (hmv.elim Or.inl (fun h => Or.inr ⟨_, h, by simp⟩))
        simpa using this
      have hq5 : Below w.heap.size w w5 := hkept.below hq4 hq4.size (fun b hb => by have := (hvo.lt b hb).1; omega)
      obtain ⟨ra5, rc5, hcell5, hfz5, hrow5, hab5, -⟩ := hS5.row (k := 0) (by simp)
      simp only [List.getElem_cons_zero, natsI_len] at hcell5 hrow5
      have HNX := Lib.hid (HST.out.next HG.out HLE.out)
      have HEB := Lib.hid (show earB g (natsI q) 0 [] true = true from HLE.out.1.1)
      clear hap hrows hvC hvo hvl hkept hmv hown5 hr hl4 cg4 hq4 hb4 hq3 hbw hb1 hq1 hfz5
      refine wp_region_held_drew (S := (fun w' => w'.cell? ⟨w.heap.size, 0, none⟩ = some (.slice va g.length vc) ∧ w'.cell? ⟨ob5, 0, none⟩ = some (.slice ra5 q.length rc5))) (by kernel_rfl) ?_ (fun hHeld => ?_)
      · first | exact ⟨‹_›, ‹_›⟩ | (simp [*, go_sem])
      have hdw : Drawn w5 w5.drew := (Drawn.refl _).drew
      generalize w5.drew = wd at hdw hHeld ⊢
      have hSd := hS5.below (hdw.below _) (Nat.le_refl _)
      have hld := hl5.drawn hdw
      have hrd := hrow5.drawn hdw
      have hqd := hq5.trans (hdw.below _)
      have hue := useEar_any HG.out (m := 0) (U := []) (first := true) (Nat.two_pow_pos _) (hv.below hqd (Nat.le_refl _)) hld (Own.ints (xs := natsI q) (k := .i64) hrd (by omega)) (fun b hb => ⟨(hrd.lt b hb).2, fun e => own_type hrd hld (by decide) b hb e⟩)
      rw [show ((0 : Nat) : Int) = 0 from rfl] at hue
      have hszd : w5.heap.size = wd.heap.size := (by rw [hdw.heap])
      obtain ⟨p1, p2⟩ := hHeld
      have hHeld : (fun w' => World.cell? w' ⟨w.heap.size, 0, none⟩ = some (.slice va g.length vc) ∧ World.cell? w' ⟨ob5, 0, none⟩ = some (.slice ra5 q.length rc5)) wd := ⟨p1, p2⟩
      refine wpAnyH_take (i := 0) (v := ?v1) (by simp only [List.getElem?_toArray, List.getElem?_cons_zero]; exact rfl) (by kernel_rfl) (by kernel_rfl) (by kernel_rfl) (by intro _ _ _ h; exact h) (Or.inl ⟨by rfl, ?y1⟩) hHeld ?_
      case y1 => (intro w hSw; (try dsimp only at hSw); go_simp; try (with_reducible rfl))
      try simp only [Act.put, List.setIfInBounds_toArray, List.set_cons_zero, List.set_cons_succ]
      refine wpAnyH_take (i := 1) (v := ?v2) (by simp only [List.getElem?_toArray, List.getElem?_cons_succ, List.getElem?_cons_zero]; exact rfl) (by kernel_rfl) (by kernel_rfl) (by kernel_rfl) (by intro _ _ _ h; exact h) (Or.inl ⟨by rfl, ?y2⟩) hHeld ?_
      case y2 => (intro w hSw; (try dsimp only at hSw); go_simp; try (with_reducible rfl))
      try simp only [Act.put, List.setIfInBounds_toArray, List.set_cons_zero, List.set_cons_succ]
      refine wpAnyH_take (i := 2) (v := ?v3) (by simp only [List.getElem?_toArray, List.getElem?_cons_succ, List.getElem?_cons_zero]; exact rfl) (by kernel_rfl) (by kernel_rfl) (by kernel_rfl) (by intro _ _ _ h; exact h) (Or.inl ⟨by rfl, ?y3⟩) hHeld ?_
      case y3 => (intro w hSw; (try dsimp only at hSw); go_simp; try (with_reducible rfl))
      try simp only [Act.put, List.setIfInBounds_toArray, List.set_cons_zero, List.set_cons_succ]
      refine wpAnyH_take (i := 3) (v := ?v4) (by simp only [List.getElem?_toArray, List.getElem?_cons_succ, List.getElem?_cons_zero]; exact rfl) (by kernel_rfl) (by kernel_rfl) (by kernel_rfl) (by intro _ _ _ h; exact h) (Or.inl ⟨by rfl, ?y4⟩) hHeld ?_
      case y4 => (intro w hSw; (try dsimp only at hSw); go_simp; try (with_reducible rfl))
      try simp only [Act.put, List.setIfInBounds_toArray, List.set_cons_zero, List.set_cons_succ]
      refine wpAnyH_take (i := 4) (v := ?v5) (by simp only [List.getElem?_toArray, List.getElem?_cons_succ, List.getElem?_cons_zero]; exact rfl) (by kernel_rfl) (by kernel_rfl) (by kernel_rfl) (by intro _ _ _ h; exact h) (Or.inl ⟨by rfl, ?y5⟩) hHeld ?_
      case y5 => (intro w hSw; (try dsimp only at hSw); go_simp; try (with_reducible rfl))
      try simp only [Act.put, List.setIfInBounds_toArray, List.set_cons_zero, List.set_cons_succ]
      refine wpAnyH_ready (rs := [5]) (by kernel_rfl) (by simp) ?_
      refine AllReadyH.cons (by simp only [List.getElem?_toArray, List.getElem?_cons_succ, List.getElem?_cons_zero]; exact rfl) (fun K hK => ?_) AllReadyH.nil
      go_simp
      with_reducible refine hue.mono ?_
      rintro e w6 ⟨rfl, a', hal, hl6, hla, hk6⟩
      have hS6 := (hSd.keptE hld (by decide) (by decide) hk6).weaken (Nat.le_refl _) (show w5.heap.size ≤ w6.heap.size by have := hk6.2.2.2.1; omega)
      have p1 := (World.cell?_of_block (a := ⟨w.heap.size, 0, none⟩) (hk6.2.2.2.2 w.heap.size (cell_lt p1) (fun e => by have := (hld.lt _ e.symm).1; omega))).trans p1
      have p2 := (World.cell?_of_block (a := ⟨ob5, 0, none⟩) (hk6.2.2.2.2 ob5 (cell_lt p2) (fun e => by obtain ⟨vs, -, h2, -⟩ := hSd; exact own_type h2 hld (by decide) ob5 rfl e.symm))).trans p2
      have hq6 := hk6.below hqd hqd.size (fun b hb => by have := (hld.lt b hb).1; omega)
      try dsimp only
      refine hK.out _ _ ?h7 (fun hHeld => ?_)
      case h7 => first | exact ⟨‹_›, ‹_›⟩ | (simp [*, go_sem])
      clear hK K
      try simp only [Act.put, List.setIfInBounds_toArray, List.set_cons_zero, List.set_cons_succ]
      refine wpAnyH_done (by kernel_rfl) ?_ _
      have hla2 := hla HEB.out
      rw [ear_nat] at hla2
      subst hla2
      clear hla hue hHeld hk6 hld hSd hrd hqd hszd hdw p2 hS5 hl5 hrow5 hq5 hcell5 cg5
      obtain ⟨ra6, rc6, hcell6, hfz6, hrow6, hab6, -⟩ := hS6.row (k := 0) (by simp)
      simp only [List.getElem_cons_zero, natsI_len] at hcell6 hrow6
      have hrg := ear_small HLE.out.1
      have hmk := maskOf_any _ _ w6 (Own.ints (xs := natsI q) (k := .i64) hrow6 (by omega)) (fun x hx => by have := hrg x hx; omega)
      clear hrg
      have HS1 : RowKit.Hid (StE g [q] (maskL (natsI q)) (useU [] (stepsN q true))) := Lib.hid (by
        have := HNX.out.1
        rw [Nat.zero_or] at this
        exact this)
      have HM1 : RowKit.Hid (maskL (natsI q) ≠ 0) := Lib.hid (by
        have := HNX.out.2
        rw [Nat.zero_or] at this
        exact this)
      clear HNX
      go_wp2_with fail
      refine hmk.mono ?_
      rintro e w7 ⟨rfl, rfl⟩
      clear hmk hrow6 hcell6 hfz6
      go_wp2
      go_loopw [5, 6] (fun sv ov wr => ∃ (out : List (List Nat)) (m : Nat) (U : List NP), sv = .int .u32 (m : Int) ∧ RowKit.Hid (StE g out m U) ∧ RowKit.Hid (m ≠ 0) ∧ OwnR wr (w.heap.size + 1) wr.heap.size 51 2 ov (out.map natsI) ∧
        Own wr (w.heap.size + 1) 82 1 (.slice (some ⟨lb, 0, none⟩) g.length lc) g.length ((natsI (leftN g U)).map (.int .u32)) ∧ Below w.heap.size w wr ∧ wr.cell? ⟨w.heap.size, 0, none⟩ = some (.slice va g.length vc)) (fun _ ov _ => 600 - lenV ov)
      case atStart => exact ⟨[q], _, _, rfl, HS1, HM1, by simpa using hS6, hl6, hq6, p1⟩
      case round =>
        clear HS1 HM1 hS6 hl6 hq6 p1 hab6
        obtain ⟨out, m, U, rfl, HSt, HM0, hS, hl, hq, cg⟩ := hrel
        obtain ⟨wi, rfl⟩ : ∃ wx : World, wx = wr := ⟨_, rfl⟩
        have hmI := HSt.out.use.inv.mask
        have hm32 := Nat.lt_trans hmI (pow16_lt h16)
        have hse := smallestEar_any (m := m) (U := U) HG.out HM0.out hmI (ht.below hq (Nat.le_refl _)) ((Own.ints (xs := natsI (leftN g U)) (k := .u32) hl (by omega)).weak (fun _ _ => trivial))
        have hfew := HSt.out.few HG.out
        obtain ⟨oa, oc, rfl⟩ := hS.isSlice
        have hlm : (out.map natsI).length = out.length := List.length_map ..
        rw [hlm] at hS ⊢
        have HLM := Lib.hid hlm
        clear hlm
        have hqn := nilInts
        go_wp2_with fail
        refine hse.mono ?_
        rintro e w8 ⟨o, ⟨ea, en, ec, rfl, hes, heo, hb8⟩, hsome, hnone⟩
        have hq8 := hq.trans (hb8.mono hq.size)
        have hS8 := hS.below hb8 (Nat.le_refl _)
        have hl8 := hl.below hb8 (Nat.le_refl _)
        have cg8 := (hb8.cell (cell_lt cg)).trans cg
        have hcg := cell_lt cg
        simp only at hcg
        clear hse hS hl cg
        cases o with
        | none =>
          have HD := Lib.hid (HSt.out.done (Classical.byContradiction fun h => by
            obtain ⟨q, hqq⟩ := HSt.out.use.ex HTG.out h
            exact hnone rfl q hqq))
          obtain rfl : ea = none := by simpa using hes
          clear heo hsome hnone hes
          go_wp2
          refine bodyPost_ret (v := .tuple #[.slice oa out.length oc, .bool true]) (by simp [results, Tryd.results19, go_sem]) rfl ⟨_, rfl, ?_, hq8⟩
          rw [HD.out]
          exact hS8.weaken (by omega) hb8.size
        | some q =>
          have hle := hsome q rfl
          have hown := heo q rfl
          obtain ⟨hq2, hqn2, -⟩ := ear_from HG.out hmI hle.1
          obtain ⟨eb, ec2, he⟩ := own_some hown (by omega)
          simp only [Value.slice.injEq] at he
          obtain ⟨rfl, rfl, rfl⟩ := he
          have HNX := Lib.hid (HSt.out.next HG.out hle)
          have HDM : RowKit.Hid (decide (m = 0) = false) := Lib.hid (decide_eq_false HM0.out)
          have HEB2 : RowKit.Hid (earB g (natsI q) m U false = true) := Lib.hid (by have := hle.1.1; rw [HDM.out] at this; exact this)
          have HRG := Lib.hid (ear_small hle.1)
          clear hle heo hsome hnone hes
          have hwd := wide_any (Own.ints (xs := natsI q) (k := .i64) hown (by omega)) (by rw [natsI_len]; omega)
          rw [natsI_len] at hwd
          go_wp2_with fail
          refine hwd.mono ?_
          rintro e w9 ⟨r, rfl, hr, hb9⟩
          obtain ⟨ra, rc, rfl⟩ := hr.isSlice
          have hq9 := hq8.trans (hb9.mono hq8.size)
          have hS9 := hS8.below hb9 (Nat.le_refl _)
          have hl9 := hl8.below hb9 (Nat.le_refl _)
          have hown9 := hown.below hb9 (Nat.le_refl _)
          have cg9 := (hb9.cell (cell_lt cg8)).trans cg8
          have hb8s := hb8.size
          have hb9s := hb9.size
          clear hS8 hl8 cg8 hwd hown
          obtain ⟨vs, hvl, hvo, hvC, hap, hrows⟩ := hS9
          rw [HLM.out] at hvl hvo
          go_wp2_with (first | (at_builtin; refine wpList_append1b elRows rfl _ _ rfl hvo rfl rfl rfl rfl (by omega) (by omega) ?_; intro o5 w5 hown5 hkept hmv; have hl5 := hl9.otherT hvo (by decide) hkept; have he5 := hown9.otherT hvo (by decide) hkept; have cg5 := (World.cell?_of_block (a := ⟨w.heap.size, 0, none⟩) (hkept.2.2.2.2 w.heap.size (by omega) (fun e => by have := (hvo.lt _ e.symm).1; omega))).trans cg9; obtain ⟨ob5, oc5, rfl⟩ := own_some hown5 (by omega)) | fail)
          have hS5 : OwnR w5 (w.heap.size + 1) w5.heap.size 51 2 (.slice (some ⟨ob5, 0, none⟩) (out.length + 1) oc5) ((out ++ [q]).map natsI) := by
            have := ownR_snoc (C := wi.heap.size) (g := out.map natsI) (r := natsI q) (v := .slice ra q.length rc) (by rw [HLM.out]; exact hvl) (by omega) hap hrows hvC (by rw [HLM.out]; exact hown5) (by rw [natsI_len]; exact hr.weak (by omega)) (fun b hb => by have := hr.ge b hb; omega) hkept (hmv.elim Or.inl (fun h => Or.inr ⟨_, h, by simp⟩))
            simpa using this
          have hq5 : Below w.heap.size w w5 := hkept.below hq9 hq9.size (fun b hb => by have := (hvo.lt b hb).1; omega)
          have h95 := hkept.2.2.2.1
          clear hap hrows hvC hvo hvl hkept hmv hown5 hr hl9 cg9 hown9 hq9 hb9 hb8 hq8 hq
          refine wp_region_held_drew (S := (fun w' => w'.cell? ⟨w.heap.size, 0, none⟩ = some (.slice va g.length vc))) (by kernel_rfl) ?_ (fun hHeld => ?_)
          · first | exact ‹_› | (simp [*, go_sem])
          have hdw : Drawn w5 w5.drew := (Drawn.refl _).drew
          generalize w5.drew = wd at hdw hHeld ⊢
          have hSd := hS5.below (hdw.below _) (Nat.le_refl _)
          have hld := hl5.drawn hdw
          have hed := he5.drawn hdw
          have hqd := hq5.trans (hdw.below _)
          have hszd : w5.heap.size = wd.heap.size := (by rw [hdw.heap])
          have p1 := hHeld
          refine wpAnyH_take (i := 0) (v := ?v8) (by simp only [List.getElem?_toArray, List.getElem?_cons_zero]; exact rfl) (by kernel_rfl) (by kernel_rfl) (by kernel_rfl) (by intro _ _ _ h; exact h) (Or.inl ⟨by rfl, ?y8⟩) hHeld ?_
          case y8 => (intro w hSw; (try dsimp only at hSw); go_simp; try (with_reducible rfl))
          try simp only [Act.put, List.setIfInBounds_toArray, List.set_cons_zero, List.set_cons_succ]
          refine wpAnyH_take (i := 1) (v := ?v9) (by simp only [List.getElem?_toArray, List.getElem?_cons_succ, List.getElem?_cons_zero]; exact rfl) (by kernel_rfl) (by kernel_rfl) (by kernel_rfl) (by intro _ _ _ h; exact h) (Or.inl ⟨by rfl, ?y9⟩) hHeld ?_
          case y9 => (intro w hSw; (try dsimp only at hSw); go_simp; try (with_reducible rfl))
          try simp only [Act.put, List.setIfInBounds_toArray, List.set_cons_zero, List.set_cons_succ]
          refine wpAnyH_take (i := 2) (v := ?v10) (by simp only [List.getElem?_toArray, List.getElem?_cons_succ, List.getElem?_cons_zero]; exact rfl) (by kernel_rfl) (by kernel_rfl) (by kernel_rfl) (by intro _ _ _ h; exact h) (Or.inl ⟨by rfl, ?y10⟩) hHeld ?_
          case y10 => (intro w hSw; (try dsimp only at hSw); go_simp; try (with_reducible rfl))
          try simp only [Act.put, List.setIfInBounds_toArray, List.set_cons_zero, List.set_cons_succ]
          refine wpAnyH_take (i := 3) (v := ?v11) (by simp only [List.getElem?_toArray, List.getElem?_cons_succ, List.getElem?_cons_zero]; exact rfl) (by kernel_rfl) (by kernel_rfl) (by kernel_rfl) (by intro _ _ _ h; exact h) (Or.inl ⟨by rfl, ?y11⟩) hHeld ?_
          case y11 => (intro w hSw; (try dsimp only at hSw); go_simp; try (with_reducible rfl))
          try simp only [Act.put, List.setIfInBounds_toArray, List.set_cons_zero, List.set_cons_succ]
          refine wpAnyH_ready (rs := [4]) (by kernel_rfl) (by simp) ?_
          refine AllReadyH.cons (by simp only [List.getElem?_toArray, List.getElem?_cons_succ, List.getElem?_cons_zero]; exact rfl) (fun K hK => ?_) AllReadyH.nil
          go_simp
          with_reducible refine (wide_any (Own.ints (xs := natsI q) (k := .i64) hed (by omega)) (by rw [natsI_len]; omega)).mono ?_
          rintro e wf ⟨r, rfl, hr, hbf⟩
          rw [natsI_len] at hr
          obtain ⟨ra2, rc2, rfl⟩ := hr.isSlice
          have hqf := hqd.trans (hbf.mono hqd.size)
          have hSf := (hSd.below hbf (Nat.le_refl _)).weaken (Nat.le_refl _) (show w5.heap.size ≤ wf.heap.size by have := hbf.size; omega)
          have hlf := hld.below hbf (Nat.le_refl _)
          have hef := hed.below hbf (Nat.le_refl _)
          have p1 := (hbf.cell (cell_lt p1)).trans p1
          try dsimp only
          refine hK.out _ _ ?h13 (fun hHeld => ?_)
          case h13 => first | exact ‹_› | (simp [*, go_sem])
          clear hK K
          try simp only [Act.put, List.setIfInBounds_toArray, List.set_cons_zero, List.set_cons_succ]
          refine wpAnyH_ready (rs := [5]) (by kernel_rfl) (by simp) ?_
          refine AllReadyH.cons (by simp only [List.getElem?_toArray, List.getElem?_cons_succ, List.getElem?_cons_zero]; exact rfl) (fun K hK => ?_) AllReadyH.nil
          go_simp
          with_reducible refine (useEar_any HG.out (m := m) (U := U) (first := false) hmI (hv.below hqf (Nat.le_refl _)) hlf (Own.ints (xs := natsI q) (k := .i64) hr (by omega)) (fun b hb => ⟨(hr.lt b hb).2, own_type hr hlf (by decide) b hb⟩)).mono ?_
          rintro e w6 ⟨rfl, a', hal, hl6, hla, hk6⟩
          have hS6 := (hSf.keptE hlf (by decide) (by decide) hk6).weaken (Nat.le_refl _) hk6.2.2.2.1
          have he6 := hef.otherT hlf (by decide) hk6
          have p1 := (World.cell?_of_block (a := ⟨w.heap.size, 0, none⟩) (hk6.2.2.2.2 w.heap.size (cell_lt p1) (fun e => by have := (hlf.lt _ e.symm).1; omega))).trans p1
          have hq6 := hk6.below hqf hqf.size (fun b hb => by have := (hlf.lt b hb).1; omega)
          try dsimp only
          refine hK.out _ _ ?h15 (fun hHeld => ?_)
          case h15 => first | exact ‹_› | (simp [*, go_sem])
          clear hK K
          try simp only [Act.put, List.setIfInBounds_toArray, List.set_cons_zero, List.set_cons_succ]
          refine wpAnyH_done (by kernel_rfl) ?_ _
          have hla2 := hla HEB2.out
          rw [ear_nat] at hla2
          subst hla2
          clear hla hHeld hk6 hlf hld hSf hSd hed hef hqf hqd hszd hdw hr hbf hS5 hl5 he5 hq5 cg5
          have hw6 := wide_any (Own.ints (xs := natsI q) (k := .i64) he6 (by omega)) (by rw [natsI_len]; omega)
          rw [natsI_len] at hw6
          have HST2 : RowKit.Hid (StE g (out ++ [q]) (m ||| maskL (natsI q)) (useU U (stepsN q false))) := Lib.hid (by have := HNX.out.1; rw [HDM.out] at this; exact this)
          have HM2 := Lib.hid HNX.out.2
          have hmq : maskL (natsI q) < 4294967296 := maskL_lt (n := 32) fun x hx => by have := HRG.out x hx; omega
          have HLM2 := Lib.hid (show lenV (.slice (some ⟨ob5, 0, none⟩) (out.length + 1) oc5) = out.length + 1 from rfl)
          clear HNX
          go_wp2_with fail
          refine hw6.mono ?_
          rintro e w7 ⟨r2, rfl, hr2, hb7⟩
          have hmk := maskOf_any _ _ w7 (Own.ints (xs := natsI q) (k := .i64) hr2 (by omega)) (fun x hx => by have := HRG.out x hx; omega)
          have hS7 := (hS6.below hb7 (Nat.le_refl _)).weaken (Nat.le_refl _) hb7.size
          have hl7 := hl6.below hb7 (Nat.le_refl _)
          have hq7 := hq6.trans (hb7.mono hq6.size)
          have p7 := (hb7.cell (cell_lt p1)).trans p1
          obtain ⟨ra3, rc3, rfl⟩ := hr2.isSlice
          have hor : bits BinOp.or IntKind.u32 (m : Int) (maskL (natsI q) : Int) = ((m ||| maskL (natsI q) : Nat) : Int) := u32_or_nat _ _ hm32 hmq
          clear hw6 hr2 hS6 hl6 hq6 p1 hb7 he6
          generalize maskL (natsI q) = mq at *
          go_wp2_with fail
          refine hmk.mono ?_
          rintro e w8 ⟨rfl, rfl⟩
          go_wp2
          go_roundw
          case rel => exact ⟨out ++ [q], _, _, by go_num, HST2, HM2, hS7, hl7, hq7, p7⟩
          case measure => simp [lenV]; omega
end Go.Proofs.YtgkkgagnoeedaaaDoor
