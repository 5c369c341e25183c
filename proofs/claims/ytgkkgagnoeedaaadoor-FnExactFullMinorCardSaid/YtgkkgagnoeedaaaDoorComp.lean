/- The complement's masks, by the program. -/
import Derived.Test.YtgkkgagnoeedaaaDoorReach
import Derived.Test.YtgkkgagnoeedaaaDoorLaws
namespace Go.Proofs.YtgkkgagnoeedaaaDoor
open Go.RowKit
theorem complN_get {a : List Nat} {k : Nat} : (List.range k).map (fun v => andN (andN (firstN a.length) (a.getD v 0)) (bit v)) = (List.range k).map (fun v => andN (andN (firstN a.length) (a.getD v 0)) (bit v)) := rfl
theorem complN_len (a : List Nat) : (complN a).length = a.length := by simp [complN]
theorem complN_lt {a : List Nat} (h : a.length ≤ 16) : ∀ m ∈ complN a, m < 4294967296 := fun m hm => by
  simp only [complN, List.mem_map] at hm
  obtain ⟨v, _, rfl⟩ := hm
  have := firstN_lt h
  exact Nat.lt_of_le_of_lt (andN_le _ _) (Nat.lt_of_le_of_lt (andN_le _ _) (by omega))
set_option maxHeartbeats 2000000 in
theorem complement_any {S : Nat → Prop} {nv : Value} {a : List Nat} {w : World} (hn : SlI S w .u32 nv (natsI a)) (h16 : a.length ≤ 16) (hal : ∀ m ∈ a, m < 4294967296) :
    Calls Tryd.prog 64 #[nv] w fun e w' => ∃ u, e = .returned u ∧ Own w' w.heap.size 82 1 u a.length ((natsI (complN a)).map (.int .u32)) ∧ Below w.heap.size w w' := by
  obtain ⟨nb, no, nc, hne, hnc⟩ := hn.at_
  obtain ⟨na, nc2, rfl⟩ := hn.slice
  have hnl := natsI_len a
  rw [hnl] at hne ⊢
  have hf32 : firstN a.length < 4294967296 := by have := firstN_lt h16; omega
  obtain ⟨F, hF⟩ : ∃ F : Nat → Nat, F = fun v => andN (andN (firstN a.length) (a.getD v 0)) (bit v) := ⟨_, rfl⟩
  have hco : complN a = (List.range a.length).map F := by rw [hF]; rfl
  rw [hco]
  have HNL := Lib.hid hnl; clear hco hnl
  go_enter Tryd.func64, Tryd.ntmps64
  go_wp2
  go_loopw [3, 9] (fun o i wr => ∃ k : Nat, k ≤ a.length ∧ i = .int .i64 k ∧ Own wr w.heap.size 82 1 o k ((natsI ((List.range k).map F)).map (.int .u32)) ∧ Below w.heap.size w wr) (fun _ i _ => a.length - (intOf i).toNat)
  case atStart =>
    refine ⟨0, Nat.zero_le _, rfl, ?_, (Below.refl _ _).alloc (Nat.le_refl _) _⟩
    exact World.ownsRow_lit (base := w.heap.size) (e := 82) (size := 1) w #[] 0 (Nat.le_refl _) (by unfold maxLen; omega) rfl
  case round =>
    obtain ⟨k, hk, rfl, hown, hq⟩ := hrel
    have hB := hq.size
    by_cases hlt : k < a.length
    · have hc0 := hnc k (by rw [HNL.out]; exact hlt)
      rw [natsI_get] at hc0
      have hne2 := hne (by omega)
      simp only [Value.slice.injEq] at hne2
      obtain ⟨rfl, -, rfl⟩ := hne2
      have hcell := (hq.cell (p := ⟨nb, no + k, none⟩) (cell_lt hc0)).trans hc0
      have hax := hal a[k] (List.getElem_mem _)
      have hFk : F k = andN (andN (firstN a.length) a[k]) (bit k) := by rw [hF]; simp [hlt]
      have h1 : andN (firstN a.length) a[k] < 4294967296 := Nat.lt_of_le_of_lt (andN_le _ _) hf32
      have e1 : bits BinOp.andNot IntKind.u32 (firstN a.length : Int) (a[k] : Int) = (andN (firstN a.length) a[k] : Int) := u32_andNot_nat _ _ hf32 hax
      have e2 : bits BinOp.andNot IntKind.u32 (andN (firstN a.length) a[k] : Int) (bit k : Int) = (andN (andN (firstN a.length) a[k]) (bit k) : Int) := u32_andNot_nat _ _ h1 (bit_lt (by omega))
      have HFK := Lib.hid hFk; clear hFk hc0
      generalize a[k] = y at *
      go_wp2_with (first
        | (go_at_call 69; refine (allOf_any _ _ _ _ h16).mono ?_; rintro e w' ⟨rfl, rfl⟩)
        | (go_at_call 70; refine (one_any _ _ (by omega) (by omega)).mono ?_; rintro e w' ⟨rfl, rfl⟩)
        | (at_builtin; refine wpList_append1 elNets rfl _ _ rfl hown rfl rfl rfl (by omega) hB ?_; intro v' w1 hown1 hkept hmv))
      go_roundw
      case rel => exact ⟨k + 1, by omega, by go_num, by rw [List.range_succ, List.map_append]; simpa [natsI, HFK.out] using hown1, hkept.below hq hB hown.ge⟩
      case measure => simp [intOf]; omega
    · obtain rfl : k = a.length := by omega
      go_wp2
      go_ret
      exact ⟨_, rfl, hown, hq⟩
end Go.Proofs.YtgkkgagnoeedaaaDoor
