/- slices.SortFunc at sets by bySize. -/
import Derived.Test.YtmcaccacdbcnmaaDoorSrt
import Derived.Shelf.SlSortCmp.Whole1
import Derived.Ground.SlsfProg
namespace Go.Proofs.YtmcaccacdbcnmaaDoor
open Go.RowKit
open Go.Shelf in
def Tryd.sortFV_ren : Go.Shelf.Ren := ⟨fun | 6 => 77 | 15 => 118 | 14 => 117 | 28 => 154 | 29 => 155 | 20 => 146 | 21 => 147 | 22 => 148 | 23 => 149 | 24 => 150 | 25 => 151 | 26 => 152 | 27 => 153 | 46 => 165 | 47 => 166 | 48 => 167 | 49 => 168 | 50 => 169 | 57 => 177 | n => n, fun | 22 => 57 | 24 => 62 | 25 => 96 | 3 => 3 | 39 => 108 | 0 => 0 | 53 => 61 | 55 => 162 | 4 => 4 | 46 => 156 | 45 => 155 | 50 => 149 | 5 => 5 | 9 => 9 | 66 => 171 | 70 => 175 | 76 => 181 | 77 => 182 | n => n, fun | n => n⟩
open Go.Shelf in
theorem Tryd.sortFV : Go.Proofs.SlLaysF.n6 Tryd.prog Tryd.sortFV_ren := {
  mixed := by kernel_rfl
  f6 := ⟨Tryd.f77.name, by decide, Tryd.func77.trans (congrArg some (by kernel_rfl))⟩
  f14 := ⟨Tryd.f117.name, by decide, Tryd.func117.trans (congrArg some (by kernel_rfl))⟩
  f15 := Tryd.func118.trans (congrArg some (by kernel_rfl))
  f20 := ⟨Tryd.f146.name, by decide, Tryd.func146.trans (congrArg some (by kernel_rfl))⟩
  f21 := ⟨Tryd.f147.name, by decide, Tryd.func147.trans (congrArg some (by kernel_rfl))⟩
  f22 := ⟨Tryd.f148.name, by decide, Tryd.func148.trans (congrArg some (by kernel_rfl))⟩
  f23 := ⟨Tryd.f149.name, by decide, Tryd.func149.trans (congrArg some (by kernel_rfl))⟩
  f24 := ⟨Tryd.f150.name, by decide, Tryd.func150.trans (congrArg some (by kernel_rfl))⟩
  f25 := ⟨Tryd.f151.name, by decide, Tryd.func151.trans (congrArg some (by kernel_rfl))⟩
  f26 := ⟨Tryd.f152.name, by decide, Tryd.func152.trans (congrArg some (by kernel_rfl))⟩
  f27 := ⟨Tryd.f153.name, by decide, Tryd.func153.trans (congrArg some (by kernel_rfl))⟩
  f28 := Tryd.func154.trans (congrArg some (by kernel_rfl))
  f29 := Tryd.func155.trans (congrArg some (by kernel_rfl))
  f46 := ⟨Tryd.f165.name, by decide, Tryd.func165.trans (congrArg some (by kernel_rfl))⟩
  f47 := Tryd.func166.trans (congrArg some (by kernel_rfl))
  f48 := Tryd.func167.trans (congrArg some (by kernel_rfl))
  f49 := ⟨Tryd.f168.name, by decide, Tryd.func168.trans (congrArg some (by kernel_rfl))⟩
  f50 := ⟨Tryd.f169.name, by decide, Tryd.func169.trans (congrArg some (by kernel_rfl))⟩
  f57 := ⟨Tryd.f177.name, by decide, Tryd.func177.trans (congrArg some (by kernel_rfl))⟩
  t0 := Tryd.underlying0
  a0 := Tryd.isAgg0
  z0 := Tryd.sizeOf0
  v0 := Tryd.zeroValue0
  t3 := Tryd.underlying3
  a3 := Tryd.isAgg3
  z3 := Tryd.sizeOf3
  v3 := Tryd.zeroValue3
  t4 := Tryd.underlying4
  a4 := Tryd.isAgg4
  z4 := Tryd.sizeOf4
  v4 := Tryd.zeroValue4
  t5 := Tryd.underlying5
  a5 := Tryd.isAgg5
  z5 := Tryd.sizeOf5
  v5 := Tryd.zeroValue5
  t9 := Tryd.underlying9
  a9 := Tryd.isAgg9
  z9 := Tryd.sizeOf9
  v9 := Tryd.zeroValue9
  t22 := Tryd.underlying57
  a22 := Tryd.isAgg57
  z22 := Tryd.sizeOf57
  v22 := Tryd.zeroValue57
  a24 := Tryd.isAgg62
  z24 := Tryd.sizeOf62
  t25 := Tryd.underlying96
  a25 := Tryd.isAgg96
  z25 := Tryd.sizeOf96
  v25 := Tryd.zeroValue96
  t39 := Tryd.underlying108
  a39 := Tryd.isAgg108
  z39 := Tryd.sizeOf108
  v39 := Tryd.zeroValue108
  t45 := Tryd.underlying155
  a45 := Tryd.isAgg155
  z45 := Tryd.sizeOf155
  v45 := Tryd.zeroValue155
  t46 := Tryd.underlying156
  a46 := Tryd.isAgg156
  z46 := Tryd.sizeOf156
  v46 := Tryd.zeroValue156
  t50 := Tryd.underlying149
  a50 := Tryd.isAgg149
  z50 := Tryd.sizeOf149
  v50 := Tryd.zeroValue149
  t53 := Tryd.underlying61
  a53 := Tryd.isAgg61
  z53 := Tryd.sizeOf61
  v53 := Tryd.zeroValue61
  t55 := Tryd.underlying162
  a55 := Tryd.isAgg162
  z55 := Tryd.sizeOf162
  v55 := Tryd.zeroValue162
  t66 := Tryd.underlying171
  a66 := Tryd.isAgg171
  z66 := Tryd.sizeOf171
  v66 := Tryd.zeroValue171
  t70 := Tryd.underlying175
  a70 := Tryd.isAgg175
  z70 := Tryd.sizeOf175
  v70 := Tryd.zeroValue175
  t76 := Tryd.underlying181
  a76 := Tryd.isAgg181
  z76 := Tryd.sizeOf181
  v76 := Tryd.zeroValue181
  t77 := Tryd.underlying182
  a77 := Tryd.isAgg182
  z77 := Tryd.sizeOf182
  v77 := Tryd.zeroValue182 }
theorem subs_of (ms : List Nat) (h : ∀ m ∈ ms, m < 65536) : ∃ d : List Sub16, d.map (·.1) = ms := ⟨ms.attach.map fun x => ⟨x.1, h x.1 x.2⟩, by simp⟩
theorem encS_map (d : List Sub16) : d.map encS = (natsI (d.map (·.1))).map (.int .u32) := by
  simp [natsI, encS, List.map_map, Function.comp_def]
