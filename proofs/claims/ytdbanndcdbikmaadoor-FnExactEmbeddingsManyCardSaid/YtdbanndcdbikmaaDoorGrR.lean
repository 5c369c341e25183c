/- The program's EmbeddingsMany. -/
import Derived.Test.YtdbanndcdbikmaaDoorGrQ
import Derived.Test.YtdbanndcdbikmaaDoorGrT
import Derived.Test.YtdbanndcdbikmaaDoorEmbD
import Derived.Test.YtdbanndcdbikmaaDoorFit4
import Derived.Test.YtdbanndcdbikmaaDoorMod3
namespace Go.Proofs.YtdbanndcdbikmaaDoor
open Go.RowKit
theorem foldW (l : List (List (List Nat))) : ∀ (m : Int), (l.map fun x => x.map rotL).foldl (fun m _ => wrap64 (m + 1)) m = l.foldl (fun s _ => wrap64 (s + 1)) m := by
  induction l with
  | nil => intro m; rfl
  | cons a l ih => intro m; rw [List.map_cons, List.foldl_cons, List.foldl_cons, ih]
theorem rawI_count {g : List (List Int)} (h : smallB g = true) : (rawI (growR (netsL g) 0) (List.replicate (netsL g).length [])).foldl (fun s _ => wrap64 (s + 1)) 0 = manyP g := by
  obtain ⟨hg, h8⟩ := small_is h
  have hl : (leafS g).length < 9223372036854775808 := srchS_small (edgesP_ok hg).1 h8
  rw [(leaf_perm hg).length_eq] at hl
  have h1 := count_fold (leafI g) 0 (by omega)
  have h2 : leafI g = (rawI (growR (netsL g) 0) (List.replicate (netsL g).length [])).map fun x => x.map rotL := by rw [netsL_len]; exact srchI_raw _ _
  rw [h2, foldW] at h1
  unfold manyP
  rw [if_pos h, (leaf_perm hg).length_eq, h2]
  simpa using h1
set_option maxHeartbeats 4000000 in
theorem implEmbeddingsMany_any {S : Nat → Prop} {v : Value} {g : List (List Int)} {w : World} (ht : Tab w) (hv : SlR S w v g) :
    Calls Tryd.prog 7 #[.agg #[v]] w fun e w' => e = .returned (.int .i64 (manyP g)) ∧ Below w.heap.size w w' := by
  have hq0 : Below w.heap.size w (w.alloc (.cells #[v] 27)) := (Below.refl _ _).alloc (Nat.le_refl _) _
  have hsm := isSmall_any (hv.below hq0 (Nat.le_refl _))
  have HNT := Lib.hid (fun (h : smallB g = true) (W : World) (hb : Below w.heap.size w W) => netsOf_any _ _ _ (hv.below hb (Nat.le_refl _)) (small_is h).1)
  have HCT := Lib.hid (fun (h : smallB g = true) => rawI_count h)
  have HGO := Lib.hid (fun (h : smallB g = true) => (small_is h).1)
  have HVT := Lib.hid (fun (W : World) (hb : Below w.heap.size w W) => ht.below hb (Nat.le_refl _))
  obtain ⟨va, vc, rfl⟩ := hv.slice
  have c0 : (w.alloc (.cells #[.slice va g.length vc] 27)).cell? ⟨w.heap.size, 0, none⟩ = some (.slice va g.length vc) := by simp [go_sem]
  cases hs : smallB g with
  | false =>
    have HE := Lib.hid (show manyP g = -1 by unfold manyP; rw [hs]; rfl)
    rw [hs] at hsm
    clear hs HNT HCT HGO
    go_enter Tryd.func7, Tryd.ntmps7
    go_wp2_with fail
    refine hsm.mono ?_
    rintro e w1 ⟨rfl, hb1⟩
    go_wp2
    go_ret
    exact ⟨ret_int (by rw [HE.out]), hq0.trans (hb1.mono hq0.size)⟩
  | true =>
    have hnt := HNT.out hs
    have hct := HCT.out hs
    have hg := HGO.out hs
    rw [hs] at hsm
    clear hs HNT HCT HGO
    go_enter Tryd.func7, Tryd.ntmps7
    go_wp2_with fail
    refine hsm.mono ?_
    rintro e w1 ⟨rfl, hb1⟩
    have hq1 := hq0.trans (hb1.mono hq0.size)
    have c1 := (hb1.cell (cell_lt c0)).trans c0
    clear hsm hq0 c0 hb1
    have hb2 : Below w1.heap.size w1 (w1.alloc (.cells #[.int .i64 0] 2)) := (Below.refl _ _).alloc (Nat.le_refl _) _
    have c2 := (hb2.cell (cell_lt c1)).trans c1
    have k0 : (w1.alloc (.cells #[.int .i64 0] 2)).cell? ⟨w1.heap.size, 0, none⟩ = some (.int .i64 0) := by simp [go_sem]
    have f0 : (w1.alloc (.cells #[.int .i64 0] 2)).frozen? ⟨w1.heap.size, 0, none⟩ = false := by simp [go_sem]
    have hq2 := hq1.trans (hb2.mono hq1.size)
    have hnt2 := hnt _ hq2
    go_wp2_with fail
    refine hnt2.mono ?_
    rintro e w3 ⟨nu, rfl, hnu, hb3⟩
    have hq3 := hq2.trans (hb3.mono hq2.size)
    have hcl := cell_lt k0
    have k3 := (hb3.cell hcl).trans k0
    have f3 := (hb3.frozen hcl).trans f0
    have hge := hq1.size
    generalize w1.heap.size = cb at *
    have hem := embeddings_any (eachMany cb) (F := fun b => b = cb) (s := 0) (HVT.out w3 hq3) (netW_of hg) (by rw [netsL_len]; exact hg.lo) (by have := hnu.ints (xs := natsI (netsL g)) (by have := hg.hi; omega); exact this) ⟨rfl, k3, f3⟩ (fun b hb => by rw [hb]; exact Nat.lt_of_lt_of_le hcl hb3.size) (fun _ _ => trivial)
    rw [hct] at hem
    clear hnt hnt2 hb2 hb3 c1 c2 k0 f0 k3 f3 hq2
    go_wp2_with fail
    refine hem.mono ?_
    rintro e w4 ⟨F4, rfl, ⟨-, k4, -⟩, hk4, -⟩
    go_wp2
    go_ret
    exact ⟨rfl, hk4.below hq3 hq3.size (fun b hb => by rw [hb]; exact hge)⟩
end Go.Proofs.YtdbanndcdbikmaaDoor
