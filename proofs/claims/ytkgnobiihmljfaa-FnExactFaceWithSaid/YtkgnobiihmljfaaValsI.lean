/- slices.Sorted(slices.Values(s)) at a slice of ints. -/
import Derived.Test.YtkgnobiihmljfaaVals
namespace Go.Proofs.Ytkgnobiihmljfaa
open Go.RowKit Go.Maps Go.Sort Go.Shelf
shelf_lay_g SlLaysZI.n6 Ggz 6 at Try 64 as Try.sortedI
shelf_lay_g SlLaysM.n5 Slgm 5 at Try 76 as Try.sortI
theorem sortsI (m : Nat) : AnyZI.SortsIn Try.prog Try.sortedI_ren Fence.wide m :=
  ⟨fun blk off cap ss W hH hblk hsz => callsIn_wide.2 (AnyM.slices_Sort_int Try.sortI blk off cap ss W hH hblk hsz),
   fun p cap W => callsIn_wide.2 (AnyM.slices_Sort_int_none Try.sortI p cap W)⟩
set_option maxHeartbeats 1000000 in
theorem valuesI_any (a : Option Addr) (len cap : Nat) (w : World) :
    Calls Try.prog 65 #[.slice a len cap] w fun e w' => e = .returned (.func (.func 77) #[] #[.pointer (some ⟨w.heap.size, 0, none⟩)]) ∧ w' = w.alloc (.cells #[.slice a len cap] 68) := by
  go_enter Try.func65, Try.ntmps65
  go_wp2
  go_ret
  exact ⟨rfl, rfl⟩
set_option maxRecDepth 100000 in
set_option maxHeartbeats 2000000 in
theorem values1I_in {F : Fence} {n : Nat} (h7 : F.fn 77) (hro : F.round = none) (hn : 1 ≤ n) {l Bs : Nat} {v : Value} {zs : List Int} (hreach : zs.length ≤ 1048576) {S : Nat → Prop} {w : World} (hI : SlI S w .i64 v zs) (hBs : w.cell? ⟨Bs, 0, none⟩ = some v) (J : List Int → World → Prop) (hJb : ∀ s W', J s W' → Below w.heap.size w W')
    (hY : ∀ pre x W, J pre W → pre.length < zs.length → YieldAt F (n - 1) Try.prog l #[.int .i64 x] W fun e W' => e = .returned (.bool true) ∧ J (pre ++ [x]) W' ∧ KeepsWalks W W')
    (W : World) (h0 : J [] W) :
    CallsIn F n Try.prog 77 #[.func (.yield l) #[] #[], .pointer (some ⟨Bs, 0, none⟩)] W fun e W' => (∃ v, e = .returned v) ∧ J zs W' := by
  obtain ⟨a, b, off, cap, rfl, hl, ha, hcs⟩ := hI
  have hBl := cell_lt hBs
  refine callsIn_of_wp Try.func77 rfl h7 ?_ hro
  simp only [Try.ntmps77, List.size_toArray, List.length_cons, List.length_nil, Nat.reduceAdd, Nat.reduceSub, Array.replicate_succ, Array.replicate_zero, List.push_toArray, List.append_toArray, List.nil_append, List.cons_append]
  have hcW := ((hJb _ _ h0).cell (p := ⟨Bs, 0, none⟩) hBl).trans hBs
  gi_wp2
  gi_loopw [7] (fun i wr => ∃ k : Nat, k ≤ zs.length ∧ i = .int .i64 k ∧ J (zs.take k) wr)
    (fun i _ => zs.length - (intOf i).toNat)
  case atStart => exact ⟨0, Nat.zero_le _, rfl, h0⟩
  case round =>
    obtain ⟨k, hk, rfl, hJs⟩ := hrel
    have hnx := hJb _ _ hJs
    by_cases hlt : k < zs.length
    · have hcx := hcs k hlt
      have hcx := (hnx.cell (cell_lt hcx)).trans hcx
      obtain ⟨rfl, -⟩ := ha (by omega)
      obtain ⟨fn, tmps, assign, body, hy, hR⟩ := hY _ zs[k] wr hJs (by rw [List.length_take]; omega)
      gi_wp2
      refine hR.mono ?_
      rintro e W3 ⟨rfl, hJ3, hk3⟩
      gi_wp2
      go_roundw
      case rel => exact ⟨k + 1, by omega, by simp, by rw [List.take_succ_eq_append_getElem hlt]; exact hJ3⟩
      case measure => simp [intOf]; omega
    · have hk2 : zs.take k = zs := List.take_of_length_le (by omega)
      rw [hk2] at hJs
      gi_wp2
      go_end0
      exact ⟨⟨_, rfl⟩, hJs⟩
set_option maxHeartbeats 1000000 in
theorem sortedOfI_any {S : Nat → Prop} {v : Value} {xs : List Int} {Bs : Nat} {w : World} (hx : xs.length ≤ 1048576) (hv : SlI S w .i64 v xs) (hBs : w.cell? ⟨Bs, 0, none⟩ = some v) :
    Calls Try.prog 64 #[.func (.func 77) #[] #[.pointer (some ⟨Bs, 0, none⟩)]] w fun e w' => ∃ u, e = .returned u ∧ Own w' w.heap.size 3 1 u xs.length ((xs.mergeSort (fun x y => decide (x ≤ y))).map (.int .i64)) ∧ Below w.heap.size w w' := by
  refine (callsIn_wide (n := 6)).1 ?_
  have hseq : SeqB Fence.wide 3 Try.prog 77 #[.pointer (some ⟨Bs, 0, none⟩)] xs w := fun l J W hW hJb hY h0 =>
    values1I_in (l := l) (n := 3) trivial rfl (by omega) hx hv hBs J hJb hY W h0
  have cS := sortedB Try.sortedI Fence.wide 6 trivial trivial trivial trivial rfl (by omega) (sortsI _) (enters_of Try.func76 (by kernel_rfl) rfl) 77 #[.pointer (some ⟨Bs, 0, none⟩)] trivial (enters_of Try.func77 (by kernel_rfl) rfl) xs (by unfold maxLen; omega) (by omega) w hseq
  refine cS.mono ?_
  rintro e w' ⟨u, rfl, h1, -, h2⟩
  exact ⟨u, rfl, h1, h2⟩
end Go.Proofs.Ytkgnobiihmljfaa
