/- slices.SortFunc at sets by bySize. -/
import Derived.Test.YtgkkgagnoeedaaaDoorSrt
import Derived.Shelf.SlSortCmp.Whole1
import Derived.Shelf.Lay
import Derived.Ground.SlsfProg
namespace Go.Proofs.YtgkkgagnoeedaaaDoor
open Go.RowKit
open Go.Shelf in
shelf_lay_g SlLaysF.n6 Slsf 6 at Tryd 164 as Tryd.sortFV
/-- What slices.SortFunc does to an own slice of sets. -/
def SortSets : Prop := ∀ (w : World) (B b cap : Nat) (ms : List Nat), Tab w → b ≠ 0 → (∀ m ∈ ms, m < 65536) → ms.length ≤ 1099511627 → Own w B 82 1 (.slice (some ⟨b, 0, none⟩) ms.length cap) ms.length ((natsI ms).map (.int .u32)) →
  Calls Tryd.prog 164 #[.slice (some ⟨b, 0, none⟩) ms.length cap, .func (.func 165) #[] #[]] w fun e w' => e = .returned (.tuple #[]) ∧ ∃ ms', ms'.Perm ms ∧ Own w' B 82 1 (.slice (some ⟨b, 0, none⟩) ms.length cap) ms.length ((natsI ms').map (.int .u32)) ∧ KeptBut w w' (some b)
theorem subs_of (ms : List Nat) (h : ∀ m ∈ ms, m < 65536) : ∃ d : List Sub16, d.map (·.1) = ms := ⟨ms.attach.map fun x => ⟨x.1, h x.1 x.2⟩, by simp⟩
theorem encS_map (d : List Sub16) : d.map encS = (natsI (d.map (·.1))).map (.int .u32) := by
  simp [natsI, encS, List.map_map, Function.comp_def]
open Go.Sort Go.Shelf in
theorem sortSets : SortSets := fun w B b cap ms ht hb hm hml hown => by
  obtain ⟨d, rfl⟩ := subs_of ms hm
  have hl : (d.map (·.1)).length = d.length := List.length_map ..
  rw [hl] at hown hml ⊢
  rw [← encS_map] at hown
  have hown2 : Own w B 82 1 (.slice (some ⟨b, 0, none⟩) d.length cap) d.length (d.toArray.toList.map encS) := by simpa using hown
  have hH := holds_sortS hown2 (by simp)
  have hblk := (hown.lt b rfl).2
  have hS := Any.slices_SortFunc Tryd.sortFV encS (fun _ => rfl) subC subC_swo 165 #[] b 0 cap d.toArray w (enters_of Tryd.func165 (by kernel_rfl) rfl) (lays_bySize ht hb) hH hblk (by simp; omega)
  simp only [List.size_toArray] at hS
  refine hS.mono ?_
  rintro e w' ⟨rfl, d', n, os, hp, -, rfl⟩
  have hds : d'.size = d.length := by simpa using hp.1
  refine ⟨rfl, d'.toList.map (·.1), ?_, ?_, kept_sortS d'⟩
  · have h := hp.2.2
    have e1 : (d'.extract 0 d.length).toList = d'.toList := by simp [← hds]
    have e2 : (d.toArray.extract 0 d.length).toList = d := by simp
    rw [e1, e2] at h
    exact h.map _
  · rw [← encS_map]
    exact own_sortS hown2 hds
end Go.Proofs.YtgkkgagnoeedaaaDoor
