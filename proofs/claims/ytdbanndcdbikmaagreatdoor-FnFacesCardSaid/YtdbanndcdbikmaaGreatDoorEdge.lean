/- The edges of a graph, as pairs: of both. -/
import Derived.Test.YtdbanndcdbikmaaGreatDoorMark4
import Derived.Test.YtdbanndcdbikmaaGreatDoorLink
import Derived.Test.YtdbanndcdbikmaaGreatDoorWide2
import Derived.Test.YtdbanndcdbikmaaGreatDoorLoopL
import Derived.Test.YtdbanndcdbikmaaGreatDoorDist3
namespace Go.Proofs.YtdbanndcdbikmaaGreatDoor
open Go.RowKit
def edgeRow (u : Nat) (row : List Int) : List (List Int) := (row.filter fun v => decide ((u : Int) < v)).map fun v => [(u : Int), v]
def edgesTo (g : List (List Int)) : Nat → List (List Int)
  | 0 => []
  | k + 1 => edgesTo g k ++ edgeRow k (g.getD k [])
def edgesL (g : List (List Int)) : List (List Int) := edgesTo g g.length
theorem edgeRow_len (u : Nat) (row : List Int) : (edgeRow u row).length ≤ row.length := by
  unfold edgeRow
  rw [List.length_map]
  exact List.length_filter_le _ _
theorem edgeRow_yes {u : Nat} {row : List Int} {j : Nat} (hj : j < row.length) (h : (u : Int) < row[j]) : edgeRow u (row.take (j + 1)) = edgeRow u (row.take j) ++ [[(u : Int), row[j]]] := by
  unfold edgeRow
  rw [List.take_succ_eq_append_getElem hj, List.filter_append, List.map_append]
  simp [h]
theorem edgeRow_no {u : Nat} {row : List Int} {j : Nat} (hj : j < row.length) (h : ¬ (u : Int) < row[j]) : edgeRow u (row.take (j + 1)) = edgeRow u (row.take j) := by
  unfold edgeRow
  rw [List.take_succ_eq_append_getElem hj, List.filter_append, List.map_append]
  simp [h]
theorem GOk.rowlen {g : List (List Int)} (hg : GOk g) {x : Nat} (hx : x < g.length) : g[x].length ≤ 32 := by
  have := bitsI_maskL (rise_sorted (hg.rise x hx)) (hg.ge32 hx)
  rw [← this]
  exact bitsI_len _
theorem edgesTo_len {g : List (List Int)} (hg : GOk g) : ∀ k, k ≤ g.length → (edgesTo g k).length ≤ 32 * k
  | 0, _ => by simp [edgesTo]
  | k + 1, hk => by
    have ih := edgesTo_len hg k (by omega)
    have h1 := edgeRow_len k (g.getD k [])
    have h2 := hg.rowlen (x := k) (by omega)
    have h3 : g.getD k [] = g[k] := by simp; rw [List.getElem?_eq_getElem (by omega)]; rfl
    rw [h3] at h1
    rw [edgesTo, List.length_append, h3]
    omega
theorem mem_edgeRow {u : Nat} {row : List Int} {e : List Int} : e ∈ edgeRow u row ↔ ∃ v ∈ row, (u : Int) < v ∧ e = [(u : Int), v] := by
  unfold edgeRow
  simp only [List.mem_map, List.mem_filter, decide_eq_true_eq]
  constructor
  · rintro ⟨v, ⟨h1, h2⟩, rfl⟩; exact ⟨v, h1, h2, rfl⟩
  · rintro ⟨v, h1, h2, rfl⟩; exact ⟨v, ⟨h1, h2⟩, rfl⟩
theorem mem_edgesTo {g : List (List Int)} {e : List Int} : ∀ {k : Nat}, e ∈ edgesTo g k ↔ ∃ u : Nat, u < k ∧ ∃ v ∈ g.getD u [], (u : Int) < v ∧ e = [(u : Int), v]
  | 0 => by simp [edgesTo]
  | k + 1 => by
    rw [edgesTo, List.mem_append, mem_edgesTo, mem_edgeRow]
    constructor
    · rintro (⟨u, h1, h2⟩ | h2)
      · exact ⟨u, by omega, h2⟩
      · exact ⟨k, by omega, h2⟩
    · rintro ⟨u, h1, h2⟩
      by_cases e : u = k
      · subst e; exact .inr h2
      · exact .inl ⟨u, by omega, h2⟩
theorem edges_small {g : List (List Int)} (hg : GOk g) : SmallR (edgesL g) 1048576 := by
  have h16 := hg.hi
  have := edgesTo_len hg g.length (Nat.le_refl _)
  refine ⟨by unfold edgesL; omega, fun i hi _ => ?_⟩
  obtain ⟨u, _, v, _, _, e⟩ := mem_edgesTo.1 (show (edgesL g)[i] ∈ edgesTo g g.length from List.getElem_mem hi)
  rw [e]; simp
set_option maxRecDepth 100000 in
set_option maxHeartbeats 8000000 in
theorem l1Edges_any {S : Nat → Prop} {v : Value} {g : List (List Int)} {w : World} (hg : GOk g) (hv : SlR S w v g) :
    Calls Tryz.prog 42 #[.agg #[v]] w fun e w' => ∃ u, e = .returned u ∧ OwnR w' w.heap.size w'.heap.size 36 2 u (edgesL g) ∧ Below w.heap.size w w' := by
  have h16 := hg.hi
  have HG := Lib.hid hg
  have hsize := fun (W : World) (hb : Below w.heap.size w W) => wSize_any (hv.below hb (Nat.le_refl _))
  obtain ⟨a, b, off, cap, fr, rfl, hl, ha, hc0⟩ := hv
  have hq0 : Below w.heap.size w ((w.alloc (.cells #[.slice a g.length cap] 26)).alloc (.cells #[] 36)) := ((Below.refl _ _).alloc (Nat.le_refl _) _).alloc (by simp) _
  have hR0 : OwnR ((w.alloc (.cells #[.slice a g.length cap] 26)).alloc (.cells #[] 36)) (w.heap.size + 1) ((w.alloc (.cells #[.slice a g.length cap] 26)).alloc (.cells #[] 36)).heap.size 36 2 (.slice (some ⟨w.heap.size + 1, 0, none⟩) 0 0) (edgesTo g 0) := by
    have ho0 : Own ((w.alloc (.cells #[.slice a g.length cap] 26)).alloc (.cells #[] 36)) (w.heap.size + 1) 36 1 (.slice (some ⟨w.heap.size + 1, 0, none⟩) 0 0) 0 [] := by
      have := World.ownsRow_lit (base := w.heap.size + 1) (e := 36) (size := 1) (w.alloc (.cells #[.slice a g.length cap] 26)) #[] 0 (by simp) (by unfold maxLen; omega) rfl
      simpa [Own] using this
    exact ⟨[], rfl, ho0, fun b hb => (ho0.lt b hb).2, ApartL.nil, fun i hi => by simp [edgesTo] at hi⟩
  go_enter Tryz.func42, Tryz.ntmps42
  go_wp2
  go_loopw [3, 4] (fun o i wr => ∃ k : Nat, k ≤ g.length ∧ i = .int .i64 k ∧ OwnR wr (w.heap.size + 1) wr.heap.size 36 2 o (edgesTo g k) ∧ Below w.heap.size w wr ∧ wr.cell? ⟨w.heap.size, 0, none⟩ = some (.slice a g.length cap)) (fun _ i _ => g.length - (intOf i).toNat)
  case atStart => exact ⟨0, Nat.zero_le _, rfl, hR0, hq0, by simp [go_sem]⟩
  case round =>
    clear hR0 hq0
    obtain ⟨k, hk, rfl, hR, hq, hbx⟩ := hrel
    obtain ⟨oa, oc, rfl⟩ := hR.isSlice
    go_wp2_with fail
    refine (hsize _ hq).mono ?_
    rintro e w1 ⟨rfl, hb1⟩
    have hqa := hq.trans (hb1.mono hq.size)
    have hR := (hR.below hb1 (Nat.le_refl _)).weaken (Nat.le_refl _) hb1.size
    have hbx := (hb1.cell (cell_lt hbx)).trans hbx
    replace hq := hqa
    clear hqa hb1
    by_cases hlt : k < g.length
    case neg =>
      obtain rfl : k = g.length := by omega
      go_wp2
      go_ret
      exact ⟨_, rfl, hR.weaken (by omega) (Nat.le_refl _), hq⟩
    obtain ⟨hcell2, hrow⟩ := hc0 k hlt
    obtain ⟨rfl, -⟩ := ha (by omega)
    have HST := Lib.hid (show edgesTo g (k + 1) = edgesTo g k ++ edgeRow k g[k] by rw [edgesTo]; congr 2; simp; rw [List.getElem?_eq_getElem hlt]; rfl)
    have hEl := edgesTo_len HG.out k hk
    have hrl := HG.out.rowlen hlt
    generalize edgesTo g k = E at *
    generalize g[k] = row at *
    obtain ⟨ra, rb, ro, rc, hre, hrlc, hra, hrc⟩ := hrow
    rw [hre] at hcell2
    have hcx := (hq.cell (p := ⟨b, off + k, none⟩) (cell_lt hcell2)).trans hcell2
    have hR1 : OwnR w1 (w.heap.size + 1) w1.heap.size 36 2 (.slice oa E.length oc) (E ++ edgeRow k (row.take 0)) := by simpa [edgeRow] using hR
    clear hR hre
    go_wp2
    go_loopw [3, 5] (fun o i wr => ∃ j : Nat, j ≤ row.length ∧ i = .int .i64 j ∧ OwnR wr (w.heap.size + 1) wr.heap.size 36 2 o (E ++ edgeRow k (row.take j)) ∧ Below w.heap.size w wr ∧ wr.cell? ⟨w.heap.size, 0, none⟩ = some (.slice (some ⟨b, off, none⟩) g.length cap)) (fun _ i _ => row.length - (intOf i).toNat)
    case atStart => exact ⟨0, Nat.zero_le _, rfl, hR1, hq, hbx⟩
    case round =>
      clear hR1 hq hbx hcx
      obtain ⟨wi, rfl⟩ : ∃ wx : World, wx = wr := ⟨_, rfl⟩
      obtain ⟨j, hj, rfl, hR, hq, hbx⟩ := hrel
      have hcx := (hq.cell (p := ⟨b, off + k, none⟩) (cell_lt hcell2)).trans hcell2
      by_cases hjl : j < row.length
      case neg =>
        obtain rfl : j = row.length := by omega
        rw [List.take_length] at hR
        go_wp2
        go_roundw
        case rel => exact ⟨k + 1, by omega, by go_num, by rw [HST.out]; exact hR, hq, hbx⟩
        case measure => simp [intOf]; omega
      have hcr := hrc j hjl
      obtain ⟨rfl, -⟩ := hra (by omega)
      have hcz := (hq.cell (p := ⟨rb, ro + j, none⟩) (cell_lt hcr)).trans hcr
      by_cases hgt : (k : Int) < row[j]
      · have HE := Lib.hid (show E ++ edgeRow k (row.take (j + 1)) = (E ++ edgeRow k (row.take j)) ++ [[(k : Int), row[j]]] by rw [edgeRow_yes hjl hgt, List.append_assoc])
        have hel := edgeRow_len k (row.take j)
        have htl : (row.take j).length ≤ row.length := by simp; omega
        have hEE : (E ++ edgeRow k (row.take j)).length ≤ 1000 := by rw [List.length_append]; omega
        generalize row[j] = z at *
        generalize E ++ edgeRow k (row.take j) = F at *
        obtain ⟨vs, hvl, hown, hbC, hap, hrows⟩ := hR
        have hB2 : w.heap.size + 1 ≤ wi.heap.size := cell_lt hbx
        have hba : Below wi.heap.size wi (wi.alloc (.cells #[.int .i64 (k : Int), .int .i64 z] 2)) := (Below.refl _ _).alloc (Nat.le_refl _) _
        have hown2 := hown.below hba (Nat.le_refl _)
        have hrows2 : ∀ i (h : i < F.length) (h2 : i < vs.length), Own (wi.alloc (.cells #[.int .i64 (k : Int), .int .i64 z] 2)) (w.heap.size + 1) 2 1 vs[i] F[i].length (F[i].map (.int .i64)) ∧ (∀ b, vs[i].ownBlock = some b → b < wi.heap.size ∧ _) := fun i h h2 => ⟨(hrows i h h2).1.below hba (Nat.le_refl _), (hrows i h h2).2⟩
        have hv2 : Own (wi.alloc (.cells #[.int .i64 (k : Int), .int .i64 z] 2)) (w.heap.size + 1) 2 1 (.slice (some ⟨wi.heap.size, 0, none⟩) 2 2) [(k : Int), z].length ([(k : Int), z].map (.int .i64)) := World.ownsRow_lit (base := w.heap.size + 1) (e := 2) (size := 1) wi #[.int .i64 (k : Int), .int .i64 z] 2 hB2 (by unfold maxLen; omega) rfl
        have hq2 := hq.trans (hba.mono hq.size)
        have hbx2 := (hba.cell (cell_lt hbx)).trans hbx
        obtain ⟨oa3, oc3, rfl⟩ := hown.isSlice
        clear hrows hown
        go_wp2_with (at_builtin; refine wpList_append1b elRows rfl _ _ rfl hown2 rfl (by first | rfl | simp) rfl rfl (by omega) (by simp; omega) ?_; intro o5 w5 hown5 hkept hmv)
        have hR5 : OwnR w5 (w.heap.size + 1) w5.heap.size 36 2 o5 (F ++ [[(k : Int), z]]) := ownR_snoc hvl (by simp) hap hrows2 hbC hown5 hv2 (fun b hb => by simp [Value.ownBlock] at hb; omega) hkept (by
          rcases hmv with h | h
          · exact .inl h
          · exact .inr ⟨_, h, by simp⟩)
        have hq5 := hkept.below hq2 hq2.size (fun c h => by have := (hown2.lt c h).1; omega)
        have hbx5 : w5.cell? ⟨w.heap.size, 0, none⟩ = some (.slice (some ⟨b, off, none⟩) g.length cap) := (World.cell?_of_block (a := ⟨w.heap.size, 0, none⟩) (hkept.2.2.2.2 w.heap.size (cell_lt hbx2) (fun e => by have := (hown2.lt _ e.symm).1; omega))).trans hbx2
        go_roundw
        case rel => exact ⟨j + 1, by omega, by go_num, by rw [HE.out]; exact hR5, hq5, hbx5⟩
        case measure => simp [intOf]; omega
      · have HE := Lib.hid (show E ++ edgeRow k (row.take (j + 1)) = E ++ edgeRow k (row.take j) by rw [edgeRow_no hjl hgt])
        generalize row[j] = z at *
        go_wp2
        go_roundw
        case rel => exact ⟨j + 1, by omega, by go_num, by rw [HE.out]; exact hR, hq, hbx⟩
        case measure => simp [intOf]; omega
set_option maxRecDepth 100000 in
set_option maxHeartbeats 8000000 in
theorem edgesOf_any {S : Nat → Prop} {v : Value} {g : List (List Int)} {w : World} (hg : GOk g) (hv : SlR S w v g) :
    Calls Tryz.prog 108 #[.agg #[v]] w fun e w' => ∃ u, e = .returned u ∧ OwnR w' w.heap.size w'.heap.size 36 2 u (edgesL g) ∧ Below w.heap.size w w' := by
  have h16 := hg.hi
  have HG := Lib.hid hg
  obtain ⟨a, b, off, cap, fr, rfl, hl, ha, hc0⟩ := hv
  have hq0 : Below w.heap.size w ((w.alloc (.cells #[.slice a g.length cap] 26)).alloc (.cells #[] 36)) := ((Below.refl _ _).alloc (Nat.le_refl _) _).alloc (by simp) _
  have hR0 : OwnR ((w.alloc (.cells #[.slice a g.length cap] 26)).alloc (.cells #[] 36)) (w.heap.size + 1) ((w.alloc (.cells #[.slice a g.length cap] 26)).alloc (.cells #[] 36)).heap.size 36 2 (.slice (some ⟨w.heap.size + 1, 0, none⟩) 0 0) (edgesTo g 0) := by
    have ho0 : Own ((w.alloc (.cells #[.slice a g.length cap] 26)).alloc (.cells #[] 36)) (w.heap.size + 1) 36 1 (.slice (some ⟨w.heap.size + 1, 0, none⟩) 0 0) 0 [] := by
      have := World.ownsRow_lit (base := w.heap.size + 1) (e := 36) (size := 1) (w.alloc (.cells #[.slice a g.length cap] 26)) #[] 0 (by simp) (by unfold maxLen; omega) rfl
      simpa [Own] using this
    exact ⟨[], rfl, ho0, fun b hb => (ho0.lt b hb).2, ApartL.nil, fun i hi => by simp [edgesTo] at hi⟩
  go_enter Tryz.func108, Tryz.ntmps108
  go_wp2
  go_loopw [3, 12] (fun o i wr => ∃ k : Nat, k ≤ g.length ∧ i = .int .i64 k ∧ OwnR wr (w.heap.size + 1) wr.heap.size 36 2 o (edgesTo g k) ∧ Below w.heap.size w wr ∧ wr.cell? ⟨w.heap.size, 0, none⟩ = some (.slice a g.length cap)) (fun _ i _ => g.length - (intOf i).toNat)
  case atStart => exact ⟨0, Nat.zero_le _, rfl, hR0, hq0, by simp [go_sem]⟩
  case round =>
    clear hR0 hq0
    obtain ⟨k, hk, rfl, hR, hq, hbx⟩ := hrel
    obtain ⟨oa, oc, rfl⟩ := hR.isSlice
    by_cases hlt : k < g.length
    case neg =>
      obtain rfl : k = g.length := by omega
      go_wp2
      go_ret
      exact ⟨_, rfl, hR.weaken (by omega) (Nat.le_refl _), hq⟩
    obtain ⟨hcell2, hrow⟩ := hc0 k hlt
    obtain ⟨rfl, -⟩ := ha (by omega)
    have HST := Lib.hid (show edgesTo g (k + 1) = edgesTo g k ++ edgeRow k g[k] by rw [edgesTo]; congr 2; simp; rw [List.getElem?_eq_getElem hlt]; rfl)
    have hEl := edgesTo_len HG.out k hk
    have hrl := HG.out.rowlen hlt
    generalize edgesTo g k = E at *
    generalize g[k] = row at *
    obtain ⟨ra, rb, ro, rc, hre, hrlc, hra, hrc⟩ := hrow
    rw [hre] at hcell2
    have hcx := (hq.cell (p := ⟨b, off + k, none⟩) (cell_lt hcell2)).trans hcell2
    have hR1 : OwnR wr (w.heap.size + 1) wr.heap.size 36 2 (.slice oa E.length oc) (E ++ edgeRow k (row.take 0)) := by simpa [edgeRow] using hR
    clear hR hre
    go_wp2
    go_loopw [3, 19] (fun o i wr => ∃ j : Nat, j ≤ row.length ∧ i = .int .i64 j ∧ OwnR wr (w.heap.size + 1) wr.heap.size 36 2 o (E ++ edgeRow k (row.take j)) ∧ Below w.heap.size w wr ∧ wr.cell? ⟨w.heap.size, 0, none⟩ = some (.slice (some ⟨b, off, none⟩) g.length cap)) (fun _ i _ => row.length - (intOf i).toNat)
    case atStart => exact ⟨0, Nat.zero_le _, rfl, hR1, hq, hbx⟩
    case round =>
      clear hR1 hq hbx hcx
      obtain ⟨wi, rfl⟩ : ∃ wx : World, wx = wr := ⟨_, rfl⟩
      obtain ⟨j, hj, rfl, hR, hq, hbx⟩ := hrel
      have hcx := (hq.cell (p := ⟨b, off + k, none⟩) (cell_lt hcell2)).trans hcell2
      by_cases hjl : j < row.length
      case neg =>
        obtain rfl : j = row.length := by omega
        rw [List.take_length] at hR
        go_wp2
        go_roundw
        case rel => exact ⟨k + 1, by omega, by go_num, by rw [HST.out]; exact hR, hq, hbx⟩
        case measure => simp [intOf]; omega
      have hcr := hrc j hjl
      obtain ⟨rfl, -⟩ := hra (by omega)
      have hcz := (hq.cell (p := ⟨rb, ro + j, none⟩) (cell_lt hcr)).trans hcr
      by_cases hgt : (k : Int) < row[j]
      · have HE := Lib.hid (show E ++ edgeRow k (row.take (j + 1)) = (E ++ edgeRow k (row.take j)) ++ [[(k : Int), row[j]]] by rw [edgeRow_yes hjl hgt, List.append_assoc])
        have hel := edgeRow_len k (row.take j)
        have htl : (row.take j).length ≤ row.length := by simp; omega
        have hEE : (E ++ edgeRow k (row.take j)).length ≤ 1000 := by rw [List.length_append]; omega
        generalize row[j] = z at *
        generalize E ++ edgeRow k (row.take j) = F at *
        obtain ⟨vs, hvl, hown, hbC, hap, hrows⟩ := hR
        have hB2 : w.heap.size + 1 ≤ wi.heap.size := cell_lt hbx
        have hba : Below wi.heap.size wi (wi.alloc (.cells #[.int .i64 (k : Int), .int .i64 z] 2)) := (Below.refl _ _).alloc (Nat.le_refl _) _
        have hown2 := hown.below hba (Nat.le_refl _)
        have hrows2 : ∀ i (h : i < F.length) (h2 : i < vs.length), Own (wi.alloc (.cells #[.int .i64 (k : Int), .int .i64 z] 2)) (w.heap.size + 1) 2 1 vs[i] F[i].length (F[i].map (.int .i64)) ∧ (∀ b, vs[i].ownBlock = some b → b < wi.heap.size ∧ _) := fun i h h2 => ⟨(hrows i h h2).1.below hba (Nat.le_refl _), (hrows i h h2).2⟩
        have hv2 : Own (wi.alloc (.cells #[.int .i64 (k : Int), .int .i64 z] 2)) (w.heap.size + 1) 2 1 (.slice (some ⟨wi.heap.size, 0, none⟩) 2 2) [(k : Int), z].length ([(k : Int), z].map (.int .i64)) := World.ownsRow_lit (base := w.heap.size + 1) (e := 2) (size := 1) wi #[.int .i64 (k : Int), .int .i64 z] 2 hB2 (by unfold maxLen; omega) rfl
        have hq2 := hq.trans (hba.mono hq.size)
        have hbx2 := (hba.cell (cell_lt hbx)).trans hbx
        obtain ⟨oa3, oc3, rfl⟩ := hown.isSlice
        clear hrows hown
        go_wp2_with (at_builtin; refine wpList_append1b elRows rfl _ _ rfl hown2 rfl (by first | rfl | simp) rfl rfl (by omega) (by simp; omega) ?_; intro o5 w5 hown5 hkept hmv)
        have hR5 : OwnR w5 (w.heap.size + 1) w5.heap.size 36 2 o5 (F ++ [[(k : Int), z]]) := ownR_snoc hvl (by simp) hap hrows2 hbC hown5 hv2 (fun b hb => by simp [Value.ownBlock] at hb; omega) hkept (by
          rcases hmv with h | h
          · exact .inl h
          · exact .inr ⟨_, h, by simp⟩)
        have hq5 := hkept.below hq2 hq2.size (fun c h => by have := (hown2.lt c h).1; omega)
        have hbx5 : w5.cell? ⟨w.heap.size, 0, none⟩ = some (.slice (some ⟨b, off, none⟩) g.length cap) := (World.cell?_of_block (a := ⟨w.heap.size, 0, none⟩) (hkept.2.2.2.2 w.heap.size (cell_lt hbx2) (fun e => by have := (hown2.lt _ e.symm).1; omega))).trans hbx2
        go_roundw
        case rel => exact ⟨j + 1, by omega, by go_num, by rw [HE.out]; exact hR5, hq5, hbx5⟩
        case measure => simp [intOf]; omega
      · have HE := Lib.hid (show E ++ edgeRow k (row.take (j + 1)) = E ++ edgeRow k (row.take j) by rw [edgeRow_no hjl hgt])
        generalize row[j] = z at *
        go_wp2
        go_roundw
        case rel => exact ⟨j + 1, by omega, by go_num, by rw [HE.out]; exact hR, hq, hbx⟩
        case measure => simp [intOf]; omega
end Go.Proofs.YtdbanndcdbikmaaGreatDoor
