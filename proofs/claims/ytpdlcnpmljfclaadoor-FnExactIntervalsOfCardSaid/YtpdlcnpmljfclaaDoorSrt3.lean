/- slices.SortFunc at sets by compareSets: the strictly rising list of them. -/
import Derived.Test.YtpdlcnpmljfclaaDoorGrw
import Derived.Lib.OwnBridge
import Derived.Shelf.SlSortCmp.Whole1
import Derived.Ground.SlsfProg
namespace Go.Proofs.YtpdlcnpmljfclaaDoor
open Go.RowKit
open Go.Sort in
def encS (x : Sub16) : Value := .int .u32 (x.1 : Int)
instance : Inhabited Sub16 := ⟨⟨0, by omega⟩⟩
open Go.Sort in
theorem heap_sortS {w : World} {g n : Nat} {os : Array Obj} {cur : Array Value} {e : TypeId} {fr : Nat × Nat} (d : Array Sub16) (hb : w.heap[g]? = some (.cells cur e fr)) :
    (sortWorld encS w g 0 n d os).heap[g]? = some (.cells (putCells encS 0 d cur) e fr) := by
  have hg : g < w.heap.size := (Array.getElem?_eq_some_iff.1 hb).1
  unfold sortWorld
  rw [heap_grow_old _ _ (by simpa using hg)]
  simp [putRow, mapBlock, Sort.ahead, Array.getElem?_modify, hb, onCells]
open Go.Sort in
theorem kept_sortS {w : World} {g n : Nat} {os : Array Obj} (d : Array Sub16) : KeptBut w (sortWorld encS w g 0 n d os) (some g) := by
  unfold sortWorld
  refine ⟨rfl, rfl, rfl, by simp, fun k hk hne => ?_⟩
  rw [heap_grow_old _ _ (by simpa using hk)]
  have : g ≠ k := fun e => hne (by rw [e])
  simp [putRow, mapBlock, Sort.ahead, Array.getElem?_modify, this]
open Go.Sort in
theorem take_putS (cur : Array Value) (d : Array Sub16) (h : d.size ≤ cur.size) : (putCells encS 0 d cur).toList.take d.size = d.toList.map encS := by
  apply List.ext_getElem?
  intro j
  by_cases hj : j < d.size
  · rw [List.getElem?_take_of_lt hj, Array.getElem?_toList]
    simp [putCells, hj, show j < cur.size by omega]
  · rw [List.getElem?_take_eq_none (by omega), List.getElem?_eq_none (by simp; omega)]
open Go.Sort in
theorem own_sortS {w : World} {B : Nat} {E : TypeId} {g cap n N : Nat} {os : Array Obj} {xs : List Value} {d : Array Sub16} (h : Own w B E 1 (.slice (some ⟨g, 0, none⟩) N cap) N xs) (hs : d.size = N) :
    Own (sortWorld encS w g 0 n d os) B E 1 (.slice (some ⟨g, 0, none⟩) N cap) N (d.toList.map encS) := by
  refine ⟨by simp [hs], .inr ?_⟩
  rcases h.2 with ⟨hv, _⟩ | ⟨g', cap', cur, hv, hb, hg, hnc, hcm, hcs, ht⟩
  · cases hv
  · simp only [Value.slice.injEq, Option.some.injEq, Addr.mk.injEq] at hv
    obtain ⟨⟨rfl, _⟩, _, rfl⟩ := hv
    exact ⟨g, cap, _, rfl, hb, heap_sortS d hg, hnc, hcm, by simp [putCells, hcs], by rw [Nat.mul_one, ← hs]; exact take_putS cur d (by omega)⟩
open Go.Sort in
theorem holds_sortS {w : World} {B : Nat} {E : TypeId} {g cap N : Nat} {d : Array Sub16} (h : Own w B E 1 (.slice (some ⟨g, 0, none⟩) N cap) N (d.toList.map encS)) (hs : d.size = N) : Holds encS w g 0 d := by
  obtain ⟨g', cap', hv, _, _, _, _, _, hH⟩ := Go.Lib.holds_of_ownsRow (enc := encS) (zs := d.toList) h (by simp)
  simp only [Value.slice.injEq, Option.some.injEq, Addr.mk.injEq] at hv
  obtain ⟨⟨rfl, _⟩, _, _⟩ := hv
  simpa using hH
open Go.Sort in
theorem tab_sortS {w : World} {g n : Nat} {os : Array Obj} (d : Array Sub16) (ht : Tab w) (hg : g ≠ 0) : Tab (sortWorld encS w g 0 n d os) := fun i hi => by
  have h := ht i hi
  exact (World.cell?_of_block (a := ⟨0, i, none⟩) ((kept_sortS d).2.2.2.2 0 (cell_lt h) (fun e => by simp at e; omega))).trans h
open Go.Shelf in
def Tryd.sortFV_ren : Go.Shelf.Ren := ⟨fun | 6 => 114 | 15 => 134 | 14 => 133 | 28 => 153 | 29 => 154 | 20 => 145 | 21 => 146 | 22 => 147 | 23 => 148 | 24 => 149 | 25 => 150 | 26 => 151 | 27 => 152 | 46 => 160 | 47 => 161 | 48 => 162 | 49 => 163 | 50 => 164 | 57 => 167 | n => n, fun | 22 => 72 | 24 => 82 | 25 => 127 | 3 => 3 | 39 => 97 | 0 => 0 | 53 => 81 | 55 => 164 | 4 => 4 | 46 => 158 | 45 => 157 | 50 => 137 | 5 => 5 | 9 => 9 | 66 => 168 | 70 => 172 | 76 => 175 | 77 => 176 | n => n, fun | n => n⟩
open Go.Shelf in
theorem Tryd.sortFV : Go.Proofs.SlLaysF.n6 Tryd.prog Tryd.sortFV_ren := {
  mixed := by kernel_rfl
  f6 := ⟨Tryd.f114.name, by decide, Tryd.func114.trans (congrArg some (by kernel_rfl))⟩
  f14 := ⟨Tryd.f133.name, by decide, Tryd.func133.trans (congrArg some (by kernel_rfl))⟩
  f15 := Tryd.func134.trans (congrArg some (by kernel_rfl))
  f20 := ⟨Tryd.f145.name, by decide, Tryd.func145.trans (congrArg some (by kernel_rfl))⟩
  f21 := ⟨Tryd.f146.name, by decide, Tryd.func146.trans (congrArg some (by kernel_rfl))⟩
  f22 := ⟨Tryd.f147.name, by decide, Tryd.func147.trans (congrArg some (by kernel_rfl))⟩
  f23 := ⟨Tryd.f148.name, by decide, Tryd.func148.trans (congrArg some (by kernel_rfl))⟩
  f24 := ⟨Tryd.f149.name, by decide, Tryd.func149.trans (congrArg some (by kernel_rfl))⟩
  f25 := ⟨Tryd.f150.name, by decide, Tryd.func150.trans (congrArg some (by kernel_rfl))⟩
  f26 := ⟨Tryd.f151.name, by decide, Tryd.func151.trans (congrArg some (by kernel_rfl))⟩
  f27 := ⟨Tryd.f152.name, by decide, Tryd.func152.trans (congrArg some (by kernel_rfl))⟩
  f28 := Tryd.func153.trans (congrArg some (by kernel_rfl))
  f29 := Tryd.func154.trans (congrArg some (by kernel_rfl))
  f46 := ⟨Tryd.f160.name, by decide, Tryd.func160.trans (congrArg some (by kernel_rfl))⟩
  f47 := Tryd.func161.trans (congrArg some (by kernel_rfl))
  f48 := Tryd.func162.trans (congrArg some (by kernel_rfl))
  f49 := ⟨Tryd.f163.name, by decide, Tryd.func163.trans (congrArg some (by kernel_rfl))⟩
  f50 := ⟨Tryd.f164.name, by decide, Tryd.func164.trans (congrArg some (by kernel_rfl))⟩
  f57 := ⟨Tryd.f167.name, by decide, Tryd.func167.trans (congrArg some (by kernel_rfl))⟩
  t0 := Tryd.underlying0
  a0 := Tryd.isAgg0
  z0 := Tryd.sizeOf0
  v0 := Tryd.zeroValue0
  t3 := Tryd.underlying3
  a3 := Tryd.isAgg3
  z3 := Tryd.sizeOf3
  v3 := Tryd.zeroValue3
  t4 := Tryd.underlying4
  a4 := Tryd.isAgg4
  z4 := Tryd.sizeOf4
  v4 := Tryd.zeroValue4
  t5 := Tryd.underlying5
  a5 := Tryd.isAgg5
  z5 := Tryd.sizeOf5
  v5 := Tryd.zeroValue5
  t9 := Tryd.underlying9
  a9 := Tryd.isAgg9
  z9 := Tryd.sizeOf9
  v9 := Tryd.zeroValue9
  t22 := Tryd.underlying72
  a22 := Tryd.isAgg72
  z22 := Tryd.sizeOf72
  v22 := Tryd.zeroValue72
  a24 := Tryd.isAgg82
  z24 := Tryd.sizeOf82
  t25 := Tryd.underlying127
  a25 := Tryd.isAgg127
  z25 := Tryd.sizeOf127
  v25 := Tryd.zeroValue127
  t39 := Tryd.underlying97
  a39 := Tryd.isAgg97
  z39 := Tryd.sizeOf97
  v39 := Tryd.zeroValue97
  t45 := Tryd.underlying157
  a45 := Tryd.isAgg157
  z45 := Tryd.sizeOf157
  v45 := Tryd.zeroValue157
  t46 := Tryd.underlying158
  a46 := Tryd.isAgg158
  z46 := Tryd.sizeOf158
  v46 := Tryd.zeroValue158
  t50 := Tryd.underlying137
  a50 := Tryd.isAgg137
  z50 := Tryd.sizeOf137
  v50 := Tryd.zeroValue137
  t53 := Tryd.underlying81
  a53 := Tryd.isAgg81
  z53 := Tryd.sizeOf81
  v53 := Tryd.zeroValue81
  t55 := Tryd.underlying164
  a55 := Tryd.isAgg164
  z55 := Tryd.sizeOf164
  v55 := Tryd.zeroValue164
  t66 := Tryd.underlying168
  a66 := Tryd.isAgg168
  z66 := Tryd.sizeOf168
  v66 := Tryd.zeroValue168
  t70 := Tryd.underlying172
  a70 := Tryd.isAgg172
  z70 := Tryd.sizeOf172
  v70 := Tryd.zeroValue172
  t76 := Tryd.underlying175
  a76 := Tryd.isAgg175
  z76 := Tryd.sizeOf175
  v76 := Tryd.zeroValue175
  t77 := Tryd.underlying176
  a77 := Tryd.isAgg176
  z77 := Tryd.sizeOf176
  v77 := Tryd.zeroValue176 }
theorem subs_of (ms : List Nat) (h : ∀ m ∈ ms, m < 65536) : ∃ d : List Sub16, d.map (·.1) = ms := ⟨ms.attach.map fun x => ⟨x.1, h x.1 x.2⟩, by simp⟩
theorem encS_map (d : List Sub16) : d.map encS = (natsI (d.map (·.1))).map (.int .u32) := by
  simp [natsI, encS, List.map_map, Function.comp_def]
def wordC (x y : Sub16) : Int := cmpL (bitsI x.1) (bitsI y.1)
theorem wordC_swo : Go.Sort.SWO (fun x y : Sub16 => decide (wordC x y < 0)) :=
  swo_of wordC (fun _ _ => cmpL_swap _ _) (fun _ => cmpL_self _) (fun a b h d => by unfold wordC at *; rw [cmpL_zero _ _ h]) (fun _ _ _ h1 h2 => cmpL_trans _ _ _ h1 h2)
theorem natI_inj : ∀ {l m : List Nat}, natsI l = natsI m → l = m
  | [], [], _ => rfl
  | [], _ :: _, h => by simp [natsI] at h
  | _ :: _, [], h => by simp [natsI] at h
  | x :: l, y :: m, h => by
    simp only [natsI, List.map_cons, List.cons.injEq] at h
    rw [natI_inj (l := l) (m := m) h.2, show x = y by omega]
open Go.Sort in
theorem lays_compareSets {w : World} {g n : Nat} (ht : Tab w) (hg : g ≠ 0) : CmpLays1 Tryd.prog 115 #[] encS wordC g 0 n w := fun m os dk hs x y => by
  refine (compareSets_any (tab_sortS dk ht hg) (by have := x.2; omega) (by have := y.2; omega)).mono ?_
  rintro e w' ⟨rfl, hb⟩
  exact ⟨rfl, hb.grown⟩
/-- What slices.SortFunc does to an own slice of different sets. -/
def SortLists : Prop := ∀ (w : World) (B b cap : Nat) (ms : List Nat), Tab w → b ≠ 0 → (∀ m ∈ ms, m < 65536) → ms.Nodup → ms.length ≤ 1099511627 → Own w B 82 1 (.slice (some ⟨b, 0, none⟩) ms.length cap) ms.length ((natsI ms).map (.int .u32)) →
  Calls Tryd.prog 114 #[.slice (some ⟨b, 0, none⟩) ms.length cap, .func (.func 115) #[] #[]] w fun e w' => e = .returned (.tuple #[]) ∧ ∃ ms', ms'.Perm ms ∧ ms'.Pairwise (fun x y => cmpL (bitsI x) (bitsI y) < 0) ∧ Own w' B 82 1 (.slice (some ⟨b, 0, none⟩) ms.length cap) ms.length ((natsI ms').map (.int .u32)) ∧ KeptBut w w' (some b)
theorem bits_inj {m k : Nat} (hm : m < 4294967296) (hk : k < 4294967296) (h : bitsI m = bitsI k) : m = k := by
  apply Nat.eq_of_testBit_eq
  intro i
  have h1 := mem_bitsI (m := m) (v := (i : Int)) hm
  have h2 := mem_bitsI (m := k) (v := (i : Int)) hk
  rw [h] at h1
  have h3 := h1.symm.trans h2
  rw [Bool.eq_iff_iff]
  simpa using h3
open Go.Sort Go.Shelf in
theorem sortLists : SortLists := fun w B b cap ms ht hb hm hnd hml hown => by
  obtain ⟨d, rfl⟩ := subs_of ms hm
  have hl : (d.map (·.1)).length = d.length := List.length_map ..
  rw [hl] at hown hml ⊢
  rw [← encS_map] at hown
  have hown2 : Own w B 82 1 (.slice (some ⟨b, 0, none⟩) d.length cap) d.length (d.toArray.toList.map encS) := by simpa using hown
  have hH := holds_sortS hown2 (by simp)
  have hblk := (hown.lt b rfl).2
  have hS := Any.slices_SortFunc Tryd.sortFV encS (fun _ => rfl) wordC wordC_swo 115 #[] b 0 cap d.toArray w (enters_of Tryd.func115 (by kernel_rfl) rfl) (lays_compareSets ht hb) hH hblk (by simp; omega)
  simp only [List.size_toArray] at hS
  refine hS.mono ?_
  rintro e w' ⟨rfl, d', n, os, hp, hso, rfl⟩
  have hds : d'.size = d.length := by simpa using hp.1
  have hperm : (d'.toList.map (·.1)).Perm (d.map (·.1)) := by
    have h := hp.2.2
    have e1 : (d'.extract 0 d.length).toList = d'.toList := by simp [← hds]
    have e2 : (d.toArray.extract 0 d.length).toList = d := by simp
    rw [e1, e2] at h
    exact h.map _
  have hnd' := hperm.nodup_iff.2 hnd
  refine ⟨rfl, d'.toList.map (·.1), hperm, ?_, ?_, kept_sortS d'⟩
  · rw [List.pairwise_iff_getElem]
    intro i j hi hj hij
    have hi2 : i < d'.size := by simpa using hi
    have hj2 : j < d'.size := by simpa using hj
    have h := hso i j (Nat.zero_le _) hij (by omega)
    rw [getElem!_pos d' i hi2, getElem!_pos d' j hj2] at h
    unfold ltOf wordC at h
    rw [decide_eq_false_iff_not] at h
    simp only [List.getElem_map, Array.getElem_toList]
    have hne : d'[i].1 ≠ d'[j].1 := by
      have := List.pairwise_iff_getElem.1 hnd' i j hi hj hij
      simpa using this
    have h0 : cmpL (bitsI d'[i].1) (bitsI d'[j].1) ≠ 0 := fun e => hne (bits_inj (by have := d'[i].2; omega) (by have := d'[j].2; omega) (cmpL_zero _ _ e))
    have h1 := cmpL_swap (bitsI d'[i].1) (bitsI d'[j].1)
    omega
  · rw [← encS_map]
    exact own_sortS hown2 hds
end Go.Proofs.YtpdlcnpmljfclaaDoor
