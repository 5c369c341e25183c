/- A graph that a call builds: empty, then link by link. -/
import Derived.Test.YtklnjpdpinccoaaEdge
import Derived.Test.YtklnjpdpinccoaaReach2
import Derived.Test.YtklnjpdpinccoaaSym2
import Derived.Test.YtklnjpdpinccoaaOrbM
namespace Go.Proofs.Ytklnjpdpinccoaa
open Go.RowKit
theorem natsI_snocN (l : List Nat) (x : Nat) : natsI (l ++ [x]) = natsI l ++ [(x : Int)] := by simp [natsI]
theorem l1All_any {n : Nat} {w : World} (hn : n ≤ 16) : Calls Try.prog 73 #[.int .i64 (n : Int)] w fun e w' => ∃ u, e = .returned u ∧ Own w' w.heap.size 2 1 u (natsI (List.range n)).length ((natsI (List.range n)).map (.int .i64)) ∧ Below w.heap.size w w' := by
  have hq0 : Below w.heap.size w (w.alloc (.cells #[] 2)) := (Below.refl _ _).alloc (Nat.le_refl _) _
  have ho0 : Own (w.alloc (.cells #[] 2)) w.heap.size 2 1 (.slice (some ⟨w.heap.size, 0, none⟩) 0 0) 0 [] := by
    have := World.ownsRow_lit (base := w.heap.size) (e := 2) (size := 1) w #[] 0 (Nat.le_refl _) (by unfold maxLen; omega) rfl
    simpa [Own] using this
  go_enter Try.func73, Try.ntmps73
  go_wp2
  go_loopw [3, 4] (fun o i wr => ∃ k : Nat, k ≤ n ∧ i = .int .i64 k ∧ Own wr w.heap.size 2 1 o k ((natsI (List.range k)).map (.int .i64)) ∧ Below w.heap.size w wr) (fun _ i _ => n - (intOf i).toNat)
  case atStart => exact ⟨0, Nat.zero_le _, rfl, by simpa [natsI] using ho0, hq0⟩
  case round =>
    clear hq0 ho0
    obtain ⟨k, hk, rfl, hown, hq⟩ := hrel
    have hB := hq.size
    by_cases hlt : k < n
    · go_wp2_with (at_builtin; refine wpList_append1 elI64 rfl _ _ rfl hown rfl rfl rfl (by omega) hB ?_; intro v' w1 hown1 hkept hmv)
      go_roundw
      case rel => exact ⟨k + 1, by omega, by go_num, by rw [List.range_succ, natsI_snocN, List.map_append]; exact hown1, hkept.below hq hB hown.ge⟩
      case measure => simp [intOf]; omega
    · obtain rfl : k = n := by omega
      go_wp2
      go_ret
      exact ⟨_, rfl, by rw [natsI_len, List.length_range]; exact hown, hq⟩
def wout (xs : List Int) (v : Int) : List Int := xs.filter fun x => decide (x ≠ v)
theorem wout_yes {xs : List Int} {v : Int} {k : Nat} (hk : k < xs.length) (h : xs[k] ≠ v) : wout (xs.take (k + 1)) v = wout (xs.take k) v ++ [xs[k]] := by
  rw [List.take_succ_eq_append_getElem hk, wout, List.filter_append]
  simp [wout, h]
theorem wout_no {xs : List Int} {v : Int} {k : Nat} (hk : k < xs.length) (h : xs[k] = v) : wout (xs.take (k + 1)) v = wout (xs.take k) v := by
  rw [List.take_succ_eq_append_getElem hk, wout, List.filter_append]
  simp [wout, h]
theorem wout_len (xs : List Int) (v : Int) : (wout xs v).length ≤ xs.length := List.length_filter_le _ _
theorem l2Without_any {S : Nat → Prop} {u : Value} {xs : List Int} {v : Int} {w : World} (hu : SlI S w .i64 u xs) (hx : xs.length ≤ 1048576) :
    Calls Try.prog 72 #[u, .int .i64 v] w fun e w' => ∃ r, e = .returned r ∧ Own w' w.heap.size 2 1 r (wout xs v).length ((wout xs v).map (.int .i64)) ∧ Below w.heap.size w w' := by
  have hq0 : Below w.heap.size w (w.alloc (.cells #[] 2)) := (Below.refl _ _).alloc (Nat.le_refl _) _
  have ho0 : Own (w.alloc (.cells #[] 2)) w.heap.size 2 1 (.slice (some ⟨w.heap.size, 0, none⟩) 0 0) 0 [] := by
    have := World.ownsRow_lit (base := w.heap.size) (e := 2) (size := 1) w #[] 0 (Nat.le_refl _) (by unfold maxLen; omega) rfl
    simpa [Own] using this
  obtain ⟨ua, ub, uo, uc, rfl, hul, hua, huc⟩ := hu
  go_enter Try.func72, Try.ntmps72
  go_wp2
  go_loopw [5, 6] (fun o i wr => ∃ k : Nat, k ≤ xs.length ∧ i = .int .i64 k ∧ Own wr w.heap.size 2 1 o (wout (xs.take k) v).length ((wout (xs.take k) v).map (.int .i64)) ∧ Below w.heap.size w wr) (fun _ i _ => xs.length - (intOf i).toNat)
  case atStart => exact ⟨0, Nat.zero_le _, rfl, by simpa [wout] using ho0, hq0⟩
  case round =>
    clear hq0 ho0
    obtain ⟨k, hk, rfl, hown, hq⟩ := hrel
    have hB := hq.size
    by_cases hlt : k < xs.length
    · have hcell := huc k hlt
      obtain ⟨rfl, -⟩ := hua (by omega)
      have hcw := (hq.cell (cell_lt hcell)).trans hcell
      have hll := wout_len (xs.take k) v
      have htl : (xs.take k).length ≤ xs.length := by simp; omega
      by_cases hv : xs[k] = v
      · have HS := Lib.hid (wout_no hlt hv)
        have hnv : (xs[k] != v) = false := by simp [hv]
        generalize xs[k] = x at *
        go_wp2
        go_roundw
        case rel => exact ⟨k + 1, by omega, by go_num, by rw [HS.out]; exact hown, hq⟩
        case measure => simp [intOf]; omega
      · have HS := Lib.hid (wout_yes hlt hv)
        have hnv : (xs[k] != v) = true := by rw [bne_iff_ne]; exact hv
        generalize xs[k] = x at *
        go_wp2_with (at_builtin; refine wpList_append1 elI64 rfl _ _ rfl hown rfl rfl rfl (by omega) hB ?_; intro v' w1 hown1 hkept hmv)
        go_roundw
        case rel => exact ⟨k + 1, by omega, by go_num, by rw [HS.out, List.length_append, List.map_append]; exact hown1, hkept.below hq hB hown.ge⟩
        case measure => simp [intOf]; omega
    · obtain rfl : k = xs.length := by omega
      rw [List.take_length] at hown
      go_wp2
      go_ret
      exact ⟨_, rfl, hown, hq⟩
/-- A row set anew. -/
theorem ownR_set {w w1 : World} {B C ab n c k : Nat} {EO EI : TypeId} {g : List (List Int)} {r : List Int} {v : Value} (h : OwnR w B C EO EI (.slice (some ⟨ab, 0, none⟩) n c) g) (hb : Below w.heap.size w w1) (hC : C ≤ w.heap.size) (hB : B ≤ w.heap.size) (hk : k < g.length)
    (hv : Own w1 w.heap.size EI 1 v r.length (r.map (.int .i64))) : OwnR (w1.setCell ⟨ab, k, none⟩ v) B w1.heap.size EO EI (.slice (some ⟨ab, 0, none⟩) n c) (g.set k r) := by
  obtain ⟨vs, h1, h2, h3, hap, h4⟩ := h
  obtain ⟨a, cc, hn⟩ := h2.isSlice
  simp only [Value.slice.injEq] at hn
  obtain ⟨-, rfl, -⟩ := hn
  have hab : B ≤ ab ∧ ab < w.heap.size := h2.lt ab rfl
  have hset : ∀ b, b ≠ ab → (w1.setCell ⟨ab, k, none⟩ v).heap[b]? = w1.heap[b]? := fun b hb => Below.heap_setCell _ _ _ _ (by simpa using hb)
  have hsz := hb.size
  refine ⟨vs.set k v, by simp [h1], ?_, fun b hb => ?_, ?_, fun i hi hi2 => ?_⟩
  · rw [List.length_set]
    exact (h2.below hb (Nat.le_refl _)).stored k v
  · have : ab = b := by simpa [Value.ownBlock] using hb
    omega
  · intro i j hi hj b hb1 hb2
    rw [List.length_set] at hi hj
    rw [List.getElem_set] at hb1 hb2
    by_cases ei : k = i <;> by_cases ej : k = j
    · omega
    · rw [if_pos ei] at hb1; rw [if_neg ej] at hb2
      have h5 := (hv.lt b hb1).1; have h6 := ((h4 j (by omega) hj).2 b hb2).1; omega
    · rw [if_neg ei] at hb1; rw [if_pos ej] at hb2
      have h5 := (hv.lt b hb2).1; have h6 := ((h4 i (by omega) hi).2 b hb1).1; omega
    · rw [if_neg ei] at hb1; rw [if_neg ej] at hb2
      exact hap i j hi hj b hb1 hb2
  · rw [List.length_set] at hi hi2
    have hne : ∀ b, b ≠ ab → (w1.setCell ⟨ab, k, none⟩ v).heap[b]? = w1.heap[b]? := hset
    by_cases e : k = i
    · subst e
      rw [List.getElem_set_self, List.getElem_set_self]
      refine ⟨(hv.keep fun b hbv => hset b (by have := (hv.lt b hbv).1; omega)).weak hB, fun b hbv => ⟨(hv.lt b hbv).2, fun he => ?_⟩⟩
      have : ab = b := by simpa [Value.ownBlock] using he
      have := (hv.lt b hbv).1; omega
    · rw [List.getElem_set_ne e, List.getElem_set_ne e]
      obtain ⟨h5, h6⟩ := h4 i hi hi2
      refine ⟨(h5.below hb (Nat.le_refl _)).keep fun b hbv => hset b (fun he => (h6 b hbv).2 (by rw [he]; rfl)), fun b hbv => ⟨?_, (h6 b hbv).2⟩⟩
      have := (h6 b hbv).1; omega
/-- Looks at an own graph's row. -/
theorem OwnR.row {w : World} {B C ab n c k : Nat} {EO EI : TypeId} {g : List (List Int)} (h : OwnR w B C EO EI (.slice (some ⟨ab, 0, none⟩) n c) g) (hk : k < g.length) : ∃ ra rc, w.cell? ⟨ab, k, none⟩ = some (.slice ra g[k].length rc) ∧ w.frozen? ⟨ab, k, none⟩ = false ∧ Own w B EI 1 (.slice ra g[k].length rc) g[k].length (g[k].map (.int .i64)) ∧ ab < w.heap.size ∧ B ≤ ab := by
  obtain ⟨vs, h1, h2, h3, hap, h4⟩ := h
  have h5 := (h4 k hk (by omega)).1
  obtain ⟨ra, rc, hre⟩ := h5.isSlice
  have hn : n = g.length := by
    obtain ⟨a, cc, hn⟩ := h2.isSlice
    simp only [Value.slice.injEq] at hn
    exact hn.2.1
  subst hn
  have hkv : k < vs.length := by omega
  have hlt := h2.lt ab rfl
  rw [hre] at h5
  exact ⟨ra, rc, (World.ownsRow.cellAt h2 k (by omega)).trans (by simp [hkv, hre]), World.ownsRow.frozenAt h2 k, h5, hlt.2, hlt.1⟩
end Go.Proofs.Ytklnjpdpinccoaa
