/- Widths: what is behind a vertex, by the program. -/
import Derived.Test.YtfkdhlmigbkefaaDoorWide2
import Derived.Test.YtfkdhlmigbkefaaDoorReach
import Derived.Test.YtfkdhlmigbkefaaDoorPop
import Derived.Test.YtfkdhlmigbkefaaDoorJoin
namespace Go.Proofs.YtfkdhlmigbkefaaDoor
open Go.RowKit
theorem bits_natsI2 (m : Nat) : bitsI m = natsI (bitsN m) := by simp [bitsI, natsI]
set_option maxRecDepth 100000 in
set_option maxHeartbeats 4000000 in
theorem behind_any {S : Nat → Prop} {nv : Value} {a : List Nat} {n gone x : Nat} {w : World} (ht : Tab w) (hI : WideI a n) (hn : SlI S w .u32 nv (natsI a)) (hg : gone < 2 ^ n) (hx : x < n) :
    Calls Tryd.prog 81 #[nv, .int .u32 (gone : Int), .int .i64 (x : Int)] w fun e w' => e = .returned (.int .u32 (behindN a gone x : Int)) ∧ Below w.heap.size w w' := by
  have h16 := hI.le
  have hp := pow16_lt h16
  have hlen := hI.len
  subst hlen
  have hw := hI.or_lt hg hx
  have hg32 : gone < 4294967296 := by omega
  have hbx : bit x < 4294967296 := bit_lt (by omega)
  have hor : bits BinOp.or IntKind.u32 (gone : Int) (bit x : Int) = ((gone ||| bit x : Nat) : Int) := u32_or_nat gone (bit x) hg32 hbx
  have hre := reach_any (v := x) (wi := gone ||| bit x) ht hn h16 hI.lt32 hw hx
  have hrl := reach_lt2 (a := a) h16 hw hx
  have hr32 := reachN_lt a (gone ||| bit x) x
  have HO := Lib.hid (orN_lt (l := bitsN (reachN a (gone ||| bit x) x)) hI.lt)
  have hE : behindN a gone x = andN (andN (orN a (bitsN (reachN a (gone ||| bit x) x))) gone) (bit x) := rfl
  have HE := Lib.hid hE
  have hRn : ∀ u ∈ bitsN (reachN a (gone ||| bit x) x), u < a.length := fun u hu => bit_lt_of hrl ((mem_bitsN hr32).1 hu)
  have HBL := Lib.hid (bits_natsI2 (reachN a (gone ||| bit x) x))
  have hR32 : (bitsN (reachN a (gone ||| bit x) x)).length ≤ 32 := bitsN_len _
  have hone := fun W : World => one_any (x : Int) W (by omega) (by omega)
  rw [Int.toNat_natCast] at hone
  have hmlt : ∀ m ∈ a, m < 4294967296 := hI.lt32
  have HOT := Lib.hid (fun k => orN_lt (a := a) (l := (bitsN (reachN a (gone ||| bit x) x)).take k) hI.lt)
  generalize gone ||| bit x = wi at *
  generalize reachN a wi x = m at *
  clear hrl hw hE
  have hli := fun (W : World) (hb : Below w.heap.size w W) => list_any m _ (ht.below hb (Nat.le_refl _)) hr32
  obtain ⟨nb, no, nc, hne, hnc⟩ := hn.at_
  have hne := hne (by rw [natsI_len]; omega)
  subst hne
  rw [natsI_len]
  rw [natsI_len] at hre
  generalize bitsN m = R at *
  go_enter Tryd.func81, Tryd.ntmps81
  go_wp2_with (go_at_call 68; refine (hone _).mono ?_; rintro e w' ⟨rfl, rfl⟩)
  refine hre.mono ?_
  rintro e w1 ⟨rfl, hb1⟩
  clear hre
  go_wp2_with fail
  refine (hli _ hb1).mono ?_
  rintro e w2 ⟨u, rfl, hu, hb2⟩
  have hq2 := hb1.trans (hb2.mono hb1.size)
  have hui := Own.ints (xs := bitsI m) hu (by have := bitsI_len m; omega)
  rw [HBL.out] at hui
  have hul : (bitsI m).length = R.length := by rw [HBL.out, natsI_len]
  rw [hul] at hu
  obtain ⟨ua, uc, rfl⟩ := hu.isSlice
  obtain ⟨ub, uo, ucap, hue, huc⟩ := hui.at_
  rw [natsI_len] at hue
  have HUC := Lib.hid huc
  clear hu hui hul hli huc
  go_wp2
  go_loopw [8, 21] (fun o i wr => ∃ k : Nat, k ≤ R.length ∧ i = .int .i64 k ∧ o = .int .u32 (orN a (R.take k) : Int) ∧ wr = w2) (fun _ i _ => R.length - (intOf i).toNat)
  case atStart => exact ⟨0, Nat.zero_le _, rfl, rfl, rfl⟩
  case round =>
    obtain ⟨k, hk, rfl, rfl, rfl⟩ := hrel
    by_cases hlt : k < R.length
    case neg =>
      obtain rfl : k = R.length := by omega
      have htk : R.take R.length = R := List.take_length
      rw [htk]
      have ho32 : orN a R < 4294967296 := Nat.lt_trans HO.out hp
      have han : bits BinOp.andNot IntKind.u32 (orN a R : Int) (gone : Int) = (andN (orN a R) gone : Int) := u32_andNot_nat _ _ ho32 hg32
      have han2 : bits BinOp.andNot IntKind.u32 (andN (orN a R) gone : Int) (bit x : Int) = (andN (andN (orN a R) gone) (bit x) : Int) := u32_andNot_nat _ _ (Nat.lt_of_le_of_lt (andN_le _ _) ho32) hbx
      clear hue
      go_wp2_with (go_at_call 68; refine (hone _).mono ?_; rintro e w' ⟨rfl, rfl⟩)
      go_ret
      exact ⟨(by rw [HE.out]; rfl), hq2⟩
    have hc := HUC.out k (by rw [natsI_len]; exact hlt)
    rw [natsI_get] at hc
    have hue2 := hue (by omega)
    simp only [Value.slice.injEq] at hue2
    obtain ⟨rfl, -, rfl⟩ := hue2
    have hyn := hRn R[k] (List.getElem_mem hlt)
    have htk : orN a (R.take (k + 1)) = orN a (R.take k) ||| a.getD R[k] 0 := by rw [List.take_succ_eq_append_getElem hlt, orN_snoc]
    generalize R[k] = y at hc hyn htk
    have hcy := hnc y (by rw [natsI_len]; omega)
    rw [natsI_get] at hcy
    have hay : a.getD y 0 = a[y] := by simp [hyn]
    rw [hay] at htk
    have ham := hmlt _ (List.getElem_mem hyn)
    have hok : orN a (R.take k) < 4294967296 := Nat.lt_trans (HOT.out k) hp
    generalize a[y] = m2 at hcy htk ham
    have hor2 : bits BinOp.or IntKind.u32 (orN a (R.take k) : Int) (m2 : Int) = ((orN a (R.take k) ||| m2 : Nat) : Int) := u32_or_nat _ _ hok ham
    rw [← htk] at hor2
    have hcy2 := (hq2.cell (p := ⟨nb, no + y, none⟩) (cell_lt hcy)).trans hcy
    clear htk hay hcy hue
    go_wp2
    go_roundw
    case rel => exact ⟨k + 1, by omega, by go_num, rfl, by trivial⟩
    case measure => simp [intOf]; omega
end Go.Proofs.YtfkdhlmigbkefaaDoor
