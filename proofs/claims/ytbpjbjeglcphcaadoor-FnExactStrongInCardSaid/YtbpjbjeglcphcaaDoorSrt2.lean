/- slices.SortFunc at sets by bySize. -/
import Derived.Test.YtbpjbjeglcphcaaDoorSrt
import Derived.Shelf.SlSortCmp.Whole1
import Derived.Ground.SlsfProg
namespace Go.Proofs.YtbpjbjeglcphcaaDoor
open Go.RowKit
open Go.Shelf in
def Tryd.sortFV_ren : Go.Shelf.Ren := ⟨fun | 6 => 39 | 15 => 50 | 14 => 49 | 28 => 64 | 29 => 65 | 20 => 56 | 21 => 57 | 22 => 58 | 23 => 59 | 24 => 60 | 25 => 61 | 26 => 62 | 27 => 63 | 46 => 69 | 47 => 70 | 48 => 71 | 49 => 72 | 50 => 73 | 57 => 75 | n => n, fun | 22 => 42 | 24 => 39 | 25 => 59 | 3 => 3 | 39 => 62 | 0 => 0 | 53 => 38 | 55 => 81 | 4 => 4 | 46 => 73 | 45 => 72 | 50 => 77 | 5 => 5 | 9 => 9 | 66 => 83 | 70 => 87 | 76 => 91 | 77 => 92 | n => n, fun | n => n⟩
open Go.Shelf in
theorem Tryd.sortFV : Go.Proofs.SlLaysF.n6 Tryd.prog Tryd.sortFV_ren := {
  mixed := by kernel_rfl
  f6 := ⟨Tryd.f39.name, by decide, Tryd.func39.trans (congrArg some (by kernel_rfl))⟩
  f14 := ⟨Tryd.f49.name, by decide, Tryd.func49.trans (congrArg some (by kernel_rfl))⟩
  f15 := Tryd.func50.trans (congrArg some (by kernel_rfl))
  f20 := ⟨Tryd.f56.name, by decide, Tryd.func56.trans (congrArg some (by kernel_rfl))⟩
  f21 := ⟨Tryd.f57.name, by decide, Tryd.func57.trans (congrArg some (by kernel_rfl))⟩
  f22 := ⟨Tryd.f58.name, by decide, Tryd.func58.trans (congrArg some (by kernel_rfl))⟩
  f23 := ⟨Tryd.f59.name, by decide, Tryd.func59.trans (congrArg some (by kernel_rfl))⟩
  f24 := ⟨Tryd.f60.name, by decide, Tryd.func60.trans (congrArg some (by kernel_rfl))⟩
  f25 := ⟨Tryd.f61.name, by decide, Tryd.func61.trans (congrArg some (by kernel_rfl))⟩
  f26 := ⟨Tryd.f62.name, by decide, Tryd.func62.trans (congrArg some (by kernel_rfl))⟩
  f27 := ⟨Tryd.f63.name, by decide, Tryd.func63.trans (congrArg some (by kernel_rfl))⟩
  f28 := Tryd.func64.trans (congrArg some (by kernel_rfl))
  f29 := Tryd.func65.trans (congrArg some (by kernel_rfl))
  f46 := ⟨Tryd.f69.name, by decide, Tryd.func69.trans (congrArg some (by kernel_rfl))⟩
  f47 := Tryd.func70.trans (congrArg some (by kernel_rfl))
  f48 := Tryd.func71.trans (congrArg some (by kernel_rfl))
  f49 := ⟨Tryd.f72.name, by decide, Tryd.func72.trans (congrArg some (by kernel_rfl))⟩
  f50 := ⟨Tryd.f73.name, by decide, Tryd.func73.trans (congrArg some (by kernel_rfl))⟩
  f57 := ⟨Tryd.f75.name, by decide, Tryd.func75.trans (congrArg some (by kernel_rfl))⟩
  t0 := Tryd.underlying0
  a0 := Tryd.isAgg0
  z0 := Tryd.sizeOf0
  v0 := Tryd.zeroValue0
  t3 := Tryd.underlying3
  a3 := Tryd.isAgg3
  z3 := Tryd.sizeOf3
  v3 := Tryd.zeroValue3
  t4 := Tryd.underlying4
  a4 := Tryd.isAgg4
  z4 := Tryd.sizeOf4
  v4 := Tryd.zeroValue4
  t5 := Tryd.underlying5
  a5 := Tryd.isAgg5
  z5 := Tryd.sizeOf5
  v5 := Tryd.zeroValue5
  t9 := Tryd.underlying9
  a9 := Tryd.isAgg9
  z9 := Tryd.sizeOf9
  v9 := Tryd.zeroValue9
  t22 := Tryd.underlying42
  a22 := Tryd.isAgg42
  z22 := Tryd.sizeOf42
  v22 := Tryd.zeroValue42
  a24 := Tryd.isAgg39
  z24 := Tryd.sizeOf39
  t25 := Tryd.underlying59
  a25 := Tryd.isAgg59
  z25 := Tryd.sizeOf59
  v25 := Tryd.zeroValue59
  t39 := Tryd.underlying62
  a39 := Tryd.isAgg62
  z39 := Tryd.sizeOf62
  v39 := Tryd.zeroValue62
  t45 := Tryd.underlying72
  a45 := Tryd.isAgg72
  z45 := Tryd.sizeOf72
  v45 := Tryd.zeroValue72
  t46 := Tryd.underlying73
  a46 := Tryd.isAgg73
  z46 := Tryd.sizeOf73
  v46 := Tryd.zeroValue73
  t50 := Tryd.underlying77
  a50 := Tryd.isAgg77
  z50 := Tryd.sizeOf77
  v50 := Tryd.zeroValue77
  t53 := Tryd.underlying38
  a53 := Tryd.isAgg38
  z53 := Tryd.sizeOf38
  v53 := Tryd.zeroValue38
  t55 := Tryd.underlying81
  a55 := Tryd.isAgg81
  z55 := Tryd.sizeOf81
  v55 := Tryd.zeroValue81
  t66 := Tryd.underlying83
  a66 := Tryd.isAgg83
  z66 := Tryd.sizeOf83
  v66 := Tryd.zeroValue83
  t70 := Tryd.underlying87
  a70 := Tryd.isAgg87
  z70 := Tryd.sizeOf87
  v70 := Tryd.zeroValue87
  t76 := Tryd.underlying91
  a76 := Tryd.isAgg91
  z76 := Tryd.sizeOf91
  v76 := Tryd.zeroValue91
  t77 := Tryd.underlying92
  a77 := Tryd.isAgg92
  z77 := Tryd.sizeOf92
  v77 := Tryd.zeroValue92 }
theorem subs_of (ms : List Nat) (h : ∀ m ∈ ms, m < 65536) : ∃ d : List Sub16, d.map (·.1) = ms := ⟨ms.attach.map fun x => ⟨x.1, h x.1 x.2⟩, by simp⟩
theorem encS_map (d : List Sub16) : d.map encS = (natsI (d.map (·.1))).map (.int .u32) := by
  simp [natsI, encS, List.map_map, Function.comp_def]
/-- What slices.SortFunc does to an own slice of sets. -/
def SortSets : Prop := ∀ (w : World) (B b cap : Nat) (ms : List Nat), Tab w → b ≠ 0 → (∀ m ∈ ms, m < 65536) → ms.length ≤ 1099511627 → Own w B 39 1 (.slice (some ⟨b, 0, none⟩) ms.length cap) ms.length ((natsI ms).map (.int .u32)) →
  Calls Tryd.prog 39 #[.slice (some ⟨b, 0, none⟩) ms.length cap, .func (.func 40) #[] #[]] w fun e w' => e = .returned (.tuple #[]) ∧ ∃ ms', ms'.Perm ms ∧ Own w' B 39 1 (.slice (some ⟨b, 0, none⟩) ms.length cap) ms.length ((natsI ms').map (.int .u32)) ∧ KeptBut w w' (some b)
open Go.Sort Go.Shelf in
theorem sortSets : SortSets := fun w B b cap ms ht hb hm hml hown => by
  obtain ⟨d, rfl⟩ := subs_of ms hm
  have hl : (d.map (·.1)).length = d.length := List.length_map ..
  rw [hl] at hown hml ⊢
  rw [← encS_map] at hown
  have hown2 : Own w B 39 1 (.slice (some ⟨b, 0, none⟩) d.length cap) d.length (d.toArray.toList.map encS) := by simpa using hown
  have hH := holds_sortS hown2 (by simp)
  have hblk := (hown.lt b rfl).2
  have hS := Any.slices_SortFunc Tryd.sortFV encS (fun _ => rfl) subC subC_swo 40 #[] b 0 cap d.toArray w (enters_of Tryd.func40 (by kernel_rfl) rfl) (lays_bySize ht hb) hH hblk (by simp; omega)
  simp only [List.size_toArray] at hS
  refine hS.mono ?_
  rintro e w' ⟨rfl, d', n, os, hp, -, rfl⟩
  have hds : d'.size = d.length := by simpa using hp.1
  refine ⟨rfl, d'.toList.map (·.1), ?_, ?_, kept_sortS d'⟩
  · have h := hp.2.2
    have e1 : (d'.extract 0 d.length).toList = d'.toList := by simp [← hds]
    have e2 : (d.toArray.extract 0 d.length).toList = d := by simp
    rw [e1, e2] at h
    exact h.map _
  · rw [← encS_map]
    exact own_sortS hown2 hds
end Go.Proofs.YtbpjbjeglcphcaaDoor
