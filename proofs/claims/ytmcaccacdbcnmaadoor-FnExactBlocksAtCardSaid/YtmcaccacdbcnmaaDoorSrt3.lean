/- slices.SortFunc at sets by compareSets: the strictly rising list of them. -/
import Derived.Test.YtmcaccacdbcnmaaDoorSrt2
namespace Go.Proofs.YtmcaccacdbcnmaaDoor
open Go.RowKit
def wordC (x y : Sub16) : Int := cmpL (bitsI x.1) (bitsI y.1)
theorem wordC_swo : Go.Sort.SWO (fun x y : Sub16 => decide (wordC x y < 0)) :=
  swo_of wordC (fun _ _ => cmpL_swap _ _) (fun _ => cmpL_self _) (fun a b h d => by unfold wordC at *; rw [cmpL_zero _ _ h]) (fun _ _ _ h1 h2 => cmpL_trans _ _ _ h1 h2)
theorem natI_inj : ∀ {l m : List Nat}, natsI l = natsI m → l = m
  | [], [], _ => rfl
  | [], _ :: _, h => by simp [natsI] at h
  | _ :: _, [], h => by simp [natsI] at h
  | x :: l, y :: m, h => by
    simp only [natsI, List.map_cons, List.cons.injEq] at h
    rw [natI_inj (l := l) (m := m) h.2, show x = y by omega]
open Go.Sort in
theorem lays_compareSets {w : World} {g n : Nat} (ht : Tab w) (hg : g ≠ 0) : CmpLays1 Tryd.prog 78 #[] encS wordC g 0 n w := fun m os dk hs x y => by
  refine (compareSets_any (tab_sortS dk ht hg) (by have := x.2; omega) (by have := y.2; omega)).mono ?_
  rintro e w' ⟨rfl, hb⟩
  exact ⟨rfl, hb.grown⟩
/-- What slices.SortFunc does to an own slice of different sets. -/
def SortLists : Prop := ∀ (w : World) (B b cap : Nat) (ms : List Nat), Tab w → b ≠ 0 → (∀ m ∈ ms, m < 65536) → ms.Nodup → ms.length ≤ 1099511627 → Own w B 62 1 (.slice (some ⟨b, 0, none⟩) ms.length cap) ms.length ((natsI ms).map (.int .u32)) →
  Calls Tryd.prog 77 #[.slice (some ⟨b, 0, none⟩) ms.length cap, .func (.func 78) #[] #[]] w fun e w' => e = .returned (.tuple #[]) ∧ ∃ ms', ms'.Perm ms ∧ ms'.Pairwise (fun x y => cmpL (bitsI x) (bitsI y) < 0) ∧ Own w' B 62 1 (.slice (some ⟨b, 0, none⟩) ms.length cap) ms.length ((natsI ms').map (.int .u32)) ∧ KeptBut w w' (some b)
theorem bits_inj {m k : Nat} (hm : m < 4294967296) (hk : k < 4294967296) (h : bitsI m = bitsI k) : m = k := by
  apply Nat.eq_of_testBit_eq
  intro i
  have h1 := mem_bitsI (m := m) (v := (i : Int)) hm
  have h2 := mem_bitsI (m := k) (v := (i : Int)) hk
  rw [h] at h1
  have h3 := h1.symm.trans h2
  rw [Bool.eq_iff_iff]
  simpa using h3
open Go.Sort Go.Shelf in
theorem sortLists : SortLists := fun w B b cap ms ht hb hm hnd hml hown => by
  obtain ⟨d, rfl⟩ := subs_of ms hm
  have hl : (d.map (·.1)).length = d.length := List.length_map ..
  rw [hl] at hown hml ⊢
  rw [← encS_map] at hown
  have hown2 : Own w B 62 1 (.slice (some ⟨b, 0, none⟩) d.length cap) d.length (d.toArray.toList.map encS) := by simpa using hown
  have hH := holds_sortS hown2 (by simp)
  have hblk := (hown.lt b rfl).2
  have hS := Any.slices_SortFunc Tryd.sortFV encS (fun _ => rfl) wordC wordC_swo 78 #[] b 0 cap d.toArray w (enters_of Tryd.func78 (by kernel_rfl) rfl) (lays_compareSets ht hb) hH hblk (by simp; omega)
  simp only [List.size_toArray] at hS
  refine hS.mono ?_
  rintro e w' ⟨rfl, d', n, os, hp, hso, rfl⟩
  have hds : d'.size = d.length := by simpa using hp.1
  have hperm : (d'.toList.map (·.1)).Perm (d.map (·.1)) := by
    have h := hp.2.2
    have e1 : (d'.extract 0 d.length).toList = d'.toList := by simp [← hds]
    have e2 : (d.toArray.extract 0 d.length).toList = d := by simp
    rw [e1, e2] at h
    exact h.map _
  have hnd' := hperm.nodup_iff.2 hnd
  refine ⟨rfl, d'.toList.map (·.1), hperm, ?_, ?_, kept_sortS d'⟩
  · rw [List.pairwise_iff_getElem]
    intro i j hi hj hij
    have hi2 : i < d'.size := by simpa using hi
    have hj2 : j < d'.size := by simpa using hj
    have h := hso i j (Nat.zero_le _) hij (by omega)
    rw [getElem!_pos d' i hi2, getElem!_pos d' j hj2] at h
    unfold ltOf wordC at h
    rw [decide_eq_false_iff_not] at h
    simp only [List.getElem_map, Array.getElem_toList]
    have hne : d'[i].1 ≠ d'[j].1 := by
      have := List.pairwise_iff_getElem.1 hnd' i j hi hj hij
      simpa using this
    have h0 : cmpL (bitsI d'[i].1) (bitsI d'[j].1) ≠ 0 := fun e => hne (bits_inj (by have := d'[i].2; omega) (by have := d'[j].2; omega) (cmpL_zero _ _ e))
    have h1 := cmpL_swap (bitsI d'[i].1) (bitsI d'[j].1)
    omega
  · rw [← encS_map]
    exact own_sortS hown2 hds
end Go.Proofs.YtmcaccacdbcnmaaDoor
