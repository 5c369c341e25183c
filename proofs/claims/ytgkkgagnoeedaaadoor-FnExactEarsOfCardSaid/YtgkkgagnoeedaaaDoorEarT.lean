/- EarsOf by the reference; the law (printed by wip/tools/genearst.py). -/
import Derived.Test.YtgkkgagnoeedaaaDoorEarX
import Derived.Test.YtgkkgagnoeedaaaDoorEar6
import Derived.Test.YtgkkgagnoeedaaaDoorInto
import Derived.Test.YtgkkgagnoeedaaaDoorEarI
namespace Go.Proofs.YtgkkgagnoeedaaaDoor
open Go.RowKit
/-- append(s, x), the new element laid anywhere. -/
theorem opWp_append1A {P : Program} {w : World} {T E : TypeId} {bytes : Nat} {z : Value} (hE : Elem P T E 1 bytes z) {B : Nat}
    {o : Oper} {a : Act} {K : Act → World → Prop} {Q : Exit → Act → World → Prop} (s x : Operand)
    (ho : o.op = .call { callee := .builtin .append, args := #[s, x], argTypes := #[T, T] })
    {v : Value} {n : Nat} {xs : List Value} (hown : Own w B E 1 v n xs) (hs : a.eval s = v) {u : Value} {nb : Nat}
    (hx : a.eval x = .slice (some ⟨nb, 0, none⟩) 1 1) (hcell : w.cell? ⟨nb, 0, none⟩ = some u) (h1 : u.oneCell' = true)
    (h63 : n + 1 ≤ 1099511627) (hbase : B ≤ w.heap.size)
    (h : ∀ v' w', Own w' B E 1 v' (n + 1) (xs ++ [u]) → KeptBut w w' v.ownBlock → Moved w v v' → K (a.put o.dst v') w') : o.wp P a w K Q := by
  obtain ⟨v', w', hr, h2, h3, h4⟩ := append_run (w := w) (ty := o.type) hE v n xs hown ⟨nb, 0, none⟩ 1 1 [u] rfl (fun j u' hj => by
      match j, hj with
      | 0, hj => simp at hj; subst hj; simpa [Addr.add] using hcell)
    (fun u' hu' => by simp at hu'; subst hu'; exact h1) h63 hbase
  unfold Oper.wp execOp
  simp only [ho, resolve, invoke, builtin, Sem.run_bind, Sem.run_pure, Result.andThen_ok, List.map_toArray, List.map_cons, List.map_nil, hs, hx, hr]
  exact h v' w' h2 (KeptBut.of_grown h3) h4
/-- What the search answers. -/
def MoreR (B : Nat) (w : World) (o : Option (List Nat)) (e : Ending) (w' : World) : Prop :=
  ∃ x, e = .returned (.tuple #[x, .bool o.isSome]) ∧ (∀ q, o = some q → SlI (fun b => B ≤ b) w' .i64 x (natsI q)) ∧ Below w.heap.size w w'
def okS (m : Nat) (U : List NP) (L : Nat) (p : List Nat) (v : Nat) : Bool := !(decide (v ∈ p) || (decide ((lastN p, v) ∈ U) || (!decide (m = 0) && (m.testBit v == decide (p.length + 1 < L)))))
theorem candS_ok (g : List (List Int)) (m : Nat) (U : List NP) (L : Nat) (p : List Nat) : candS g m U L p = ((bitsN ((netsL g).getD (lastN p) 0)).drop 0).filter (okS m U L p) := by rw [List.drop_zero]; rfl
theorem mem_natsS {l : List Nat} {k : Nat} : (k : Int) ∈ natsI l ↔ k ∈ l := by
  unfold natsI
  rw [List.mem_map]
  constructor
  · rintro ⟨y, hy, e⟩
    have : y = k := by omega
    subst this; exact hy
  · intro h; exact ⟨k, h, rfl⟩
theorem row_natsS {g : List (List Int)} (hg : GOk g) {x : Nat} (hx : x < g.length) : g[x] = natsI (bitsN ((netsL g).getD x 0)) := by
  have e : (netsL g).getD x 0 = maskL g[x] := by simp [netsL, hx]
  have e2 : ∀ m, natsI (bitsN m) = bitsI m := fun m => by simp [bitsI, natsI]
  rw [e, e2, bitsI_maskL (rise_sorted (hg.rise x hx)) (hg.ge32 hx)]
set_option maxRecDepth 100000 in
set_option maxHeartbeats 16000000 in
theorem l19More_any {S S2 S3 : Nat → Prop} {gv mv uv : Value} {g : List (List Int)} {m L B : Nat} {U : List NP} (hg : GOk g) (hm : m < 2 ^ g.length) (hL : L ≤ 16) :
    ∀ (d : Nat) (p : List Nat) (ev : Value) (w : World), SlR S w gv g → SlI S2 w .i64 mv (bitsI m) → SlR S3 w uv (rowsP U) → p.length + d = L → 0 < p.length → (∀ a ∈ p, a < g.length) → SlI (fun b => B ≤ b) w .i64 ev (natsI p) → B ≤ w.heap.size →
      Calls Tryd.prog 134 #[.agg #[gv], ev, .int .i64 (L : Int), mv, uv] w (MoreR B w (dfsF (candS g m U L) (finS g m U) d p)) := by
  intro d
  induction d with
  | zero =>
    intro p ev w hgv hmv huv hpd hp0 hpn hev hBw
    have hb0 : Below w.heap.size w (w.alloc (.cells #[gv] 27)) := (Below.refl _ _).alloc (Nat.le_refl _) _
    have hea := l19Ear_any hg hm (hgv.below hb0 (Nat.le_refl _)) (hev.below hb0 (Nat.le_refl _)) (hmv.below hb0 (Nat.le_refl _)) (huv.below hb0 (Nat.le_refl _))
    obtain ⟨ga, gc, rfl⟩ := hgv.slice
    have HEV := Lib.hid (hev.below hb0 (Nat.le_refl _))
    obtain ⟨ea, ec, rfl⟩ := hev.slice
    rw [natsI_len] at *
    have hpL : p.length = L := by omega
    subst hpL
    have HR : RowKit.Hid (dfsF (candS g m U p.length) (finS g m U) 0 p = if earB g (natsI p) m U (m == 0) = true then some p else none) := Lib.hid (by
      rw [dfsF, finS]
      rw [show decide (m = 0) = (m == 0) by rw [Bool.eq_iff_iff, decide_eq_true_eq, beq_iff_eq]])
    generalize earB g (natsI p) m U (m == 0) = eb at *
    generalize dfsF (candS g m U p.length) (finS g m U) 0 p = R at *
    go_enter Tryd.func134, Tryd.ntmps134
    go_wp2_with fail
    refine hea.mono ?_
    rintro e w1 ⟨rfl, hb1⟩
    go_wp2
    refine bodyPost_ret (v := .tuple #[.slice ea p.length ec, .bool eb]) (by simp [results, Tryd.results134, go_sem]) rfl ⟨_, by rw [HR.out]; cases eb <;> rfl, fun q h => ?_, hb0.trans (hb1.mono hb0.size)⟩
    rw [HR.out] at h
    cases eb
    · cases h
    · cases h; exact HEV.out.below hb1 (Nat.le_refl _)
  | succ d ih =>
    intro p ev w hgv hmv huv hpd hp0 hpn hev hBw
    have hb0 : Below w.heap.size w (w.alloc (.cells #[gv] 27)) := (Below.refl _ _).alloc (Nat.le_refl _) _
    have h16 := hg.hi
    have hlast : lastN p < g.length := hpn _ (getD_mem (by omega))
    have HIH := Lib.hid ih
    have HEV := Lib.hid hev
    have hml := bitsI_len m
    have hmz : (bitsI m).length = 0 ↔ m = 0 := by rw [← bitsI_nil (Nat.lt_trans hm (pow16_lt h16))]; exact List.length_eq_zero_iff
    have hm32 := Nat.lt_trans hm (pow16_lt h16)
    have HHM := Lib.hid (fun (W : World) (hb : Below w.heap.size w W) (x : Nat) => l1Has_any _ _ (x : Int) W (hmv.below hb (Nat.le_refl _)))
    have HHU := Lib.hid (fun (W : World) (hb : Below w.heap.size w W) (x : Nat) => l19Has_any (x := lastN p) (y := x) (huv.below hb (Nat.le_refl _)))
    have HHA := Lib.hid (fun (W : World) (hb : Below w.heap.size w W) (x : Nat) => l1Has_any _ _ (x : Int) W (hev.below hb (Nat.le_refl _)))
    have hgv0 := hgv
    obtain ⟨ga, gb, goff, gcap, gf, rfl, hgl, hga, hgc⟩ := hgv
    obtain ⟨rfl, -⟩ := hga (by omega)
    obtain ⟨eb, eo, ec, hee, hec⟩ := hev.at_
    have hee := hee (by rw [natsI_len]; omega)
    subst hee
    obtain ⟨ma, mc, rfl⟩ := hmv.slice
    obtain ⟨ua, uc, rfl⟩ := huv.slice
    rw [natsI_len] at *
    have c0 : (w.alloc (.cells #[.slice (some ⟨gb, goff, none⟩) g.length gcap] 27)).cell? ⟨w.heap.size, 0, none⟩ = some (.slice (some ⟨gb, goff, none⟩) g.length gcap) := by simp [go_sem]
    have e0 : w.cell? ⟨eb, eo + (p.length - 1), none⟩ = some (.int .i64 ((lastN p : Nat) : Int)) := by
      rw [hec (p.length - 1) (by rw [natsI_len]; omega), natsI_get]; simp [lastN, show p.length - 1 < p.length by omega]
    have e1 := (hb0.cell (cell_lt e0)).trans e0
    obtain ⟨hgr0, hrow0⟩ := hgc (lastN p) hlast
    rw [row_natsS hg hlast] at hrow0
    have hw1 : IntKind.i64.wrap ((p.length : Int) - 1) = (p.length : Int) - 1 := IntWalk.i64_in _ (by omega)
    have hw2 : ((p.length : Int) - 1).toNat = p.length - 1 := by omega
    have hw3 : (0 : Int) ≤ (p.length : Int) - 1 := by omega
    have hw5 : IntKind.i64.wrap ((p.length : Int) + 1) = (p.length : Int) + 1 := IntWalk.i64_in _ (by omega)
    have hcl : ((p.length : Int) == (L : Int)) = false := by rw [beq_eq_false_iff_ne]; omega
    have hcl2 : (p.length == L) = false := by rw [beq_eq_false_iff_ne]; omega
    have hbl : (bitsN ((netsL g).getD (lastN p) 0)).length ≤ 32 := popN_32 _
    have HPN := Lib.hid (fun x (hx : x ∈ bitsN ((netsL g).getD (lastN p) 0)) => show x < g.length from (nets_symN hg ((mem_bitsN (nets_lt32 hg _)).1 hx)).2.1)
    have HOK := Lib.hid (fun k (hk : k < (bitsN ((netsL g).getD (lastN p) 0)).length) => try_step (f := fun v => dfsF (candS g m U L) (finS g m U) d (p ++ [v])) (ok := okS m U L p) hk)
    have HE0 := Lib.hid (show dfsF (candS g m U L) (finS g m U) (d + 1) p = tryL (fun v => dfsF (candS g m U L) (finS g m U) d (p ++ [v])) (((bitsN ((netsL g).getD (lastN p) 0)).drop 0).filter (okS m U L p)) by rw [dfsF, candS_ok])
    have HOKE := Lib.hid (fun v => show okS m U L p v = !(decide (v ∈ p) || (decide ((lastN p, v) ∈ U) || (!decide (m = 0) && (m.testBit v == decide (p.length + 1 < L))))) from rfl)
    obtain ⟨rb, ro, rc0, hre0, hrc⟩ := hrow0.at_
    obtain ⟨ra, rc, hre⟩ := hrow0.slice
    rw [hre] at hgr0 hre0
    rw [natsI_len] at hgr0 hre0
    have HMB := Lib.hid (fun (x : Nat) => show decide ((x : Int) ∈ bitsI m) = m.testBit x by
      rw [show bitsI m = natsI (bitsN m) by simp [bitsI, natsI], Bool.eq_iff_iff, decide_eq_true_eq, mem_natsS, mem_bitsN hm32])
    have hbl0 := hbl
    have HRC := Lib.hid hrc
    have HRE := Lib.hid hre0
    have HMZ : RowKit.Hid (∀ b : Bool, decide (m = 0) = b → decide ((0 : Int) < ((bitsI m).length : Int)) = !b) := Lib.hid (fun b hb => by
      subst hb
      rw [Bool.eq_iff_iff, decide_eq_true_eq, Bool.not_eq_true', decide_eq_false_iff_not, ← hmz]; omega)
    have HMZ2 : RowKit.Hid (∀ b : Bool, decide (m = 0) = b → decide (0 < (bitsI m).length) = !b) := Lib.hid (fun b hb => by
      subst hb
      rw [Bool.eq_iff_iff, decide_eq_true_eq, Bool.not_eq_true', decide_eq_false_iff_not, ← hmz]; omega)
    generalize (bitsI m).length = mlen at *
    generalize okS m U L p = ok at *
    generalize dfsF (candS g m U L) (finS g m U) (d + 1) p = R at *
    generalize bitsN ((netsL g).getD (lastN p) 0) = l at *
    clear hgc hga hre hrow0 hre0 hrc hec hmz hml e0 ih hev
    have hg0 : (w.alloc (.cells #[.slice (some ⟨gb, goff, none⟩) g.length gcap] 27)).cell? ⟨gb, goff + lastN p, none⟩ = some (.slice ra l.length rc) := (hb0.cell (cell_lt hgr0)).trans hgr0
    go_enter Tryd.func134, Tryd.ntmps134
    go_wp2
    go_loopw [13] (fun iv wr => ∃ k : Nat, k ≤ l.length ∧ iv = .int .i64 k ∧ RowKit.Hid (R = tryL (fun v => dfsF (candS g m U L) (finS g m U) d (p ++ [v])) ((l.drop k).filter ok)) ∧ wr.cell? ⟨w.heap.size, 0, none⟩ = some (.slice (some ⟨gb, goff, none⟩) g.length gcap) ∧ Below w.heap.size w wr) (fun iv _ => l.length - (RowKit.intOf iv).toNat)
    case atStart => exact ⟨0, Nat.zero_le _, rfl, HE0, c0, hb0⟩
    case round =>
      clear HE0 c0 hb0 e1 hg0
      obtain ⟨k, hk, rfl, HK, cg, hq⟩ := hrel
      obtain ⟨wi, rfl⟩ : ∃ wx : World, wx = wr := ⟨_, rfl⟩
      have hgc := (hq.cell (cell_lt hgr0)).trans hgr0
      by_cases hlt : k < l.length
      case neg =>
        obtain rfl : k = l.length := by omega
        have HR := Lib.hid (show R = none by rw [HK.out, List.drop_length]; rfl)
        have hqx := hq.alloc hq.size (.cells #[] 2)
        go_wp2
        refine bodyPost_ret (v := .tuple #[.slice (some ⟨wi.heap.size, 0, none⟩) 0 0, .bool false]) (by simp [results, Tryd.results134, go_sem]) rfl ⟨_, by rw [HR.out]; rfl, (fun q h => by rw [HR.out] at h; cases h), hqx⟩
      have hre2 := HRE.out (by omega)
      simp only [Value.slice.injEq] at hre2
      obtain ⟨rfl, -, rfl⟩ := hre2
      have f0 := HRC.out k (by rw [natsI_len]; exact hlt)
      rw [natsI_get] at f0
      have f1 := (hq.cell (cell_lt f0)).trans f0
      have hxg := HPN.out _ (List.getElem_mem hlt)
      have HOKk := Lib.hid (HOK.out k hlt)
      have HOKx := Lib.hid (HOKE.out l[k])
      clear f0
      generalize l[k] = x at *
      have hha := HHA.out wi hq x
      have hhm := HHM.out wi hq x
      have hhu := HHU.out wi hq x
      rw [show decide ((x : Int) ∈ natsI p) = decide (x ∈ p) from decide_eq_decide.2 mem_natsS] at hha
      rw [HMB.out x] at hhm
      have hmz1 := HMZ.out (decide (m = 0)) rfl
      have hmz2 := HMZ2.out (decide (m = 0)) rfl
      have hinn : decide ((p.length : Int) + 1 < (L : Int)) = decide (p.length + 1 < L) := by rw [decide_eq_decide]; omega
      have HPX := Lib.hid (show ∀ a ∈ p ++ [x], a < g.length from fun a ha => by
        rcases List.mem_append.1 ha with ha | ha
        · exact hpn a ha
        · simp at ha; subst ha; exact hxg)
      have HX := Lib.hid (show (natsI (p ++ [x])).map (Value.int .i64) = (natsI p).map (Value.int .i64) ++ [.int .i64 (x : Int)] by simp [natsI])
      have HSK1 := Lib.hid (fun (h : ok x = false) => show R = tryL (fun v => dfsF (candS g m U L) (finS g m U) d (p ++ [v])) ((l.drop (k + 1)).filter ok) by rw [HK.out, HOKk.out, h]; rfl)
      have HGO1 := Lib.hid (fun (h : ok x = true) => show R = (match dfsF (candS g m U L) (finS g m U) d (p ++ [x]) with | some q => some q | none => tryL (fun v => dfsF (candS g m U L) (finS g m U) d (p ++ [v])) ((l.drop (k + 1)).filter ok)) by rw [HK.out, HOKk.out, h]; rfl)
      clear HK HOKk
      generalize decide (x ∈ p) = cA at *
      generalize decide (((lastN p, x) : NP) ∈ U) = cB at *
      generalize decide (p.length + 1 < L) = inn at *
      generalize m.testBit x = tb at *
      generalize hm0 : decide (m = 0) = m0 at *
      clear hm0
      cases cA with
      | true =>
        have HSK := Lib.hid (HSK1.out (by rw [HOKx.out]; rfl))
        go_wp2_with (first | (go_at_call 104; first | ((with_reducible refine hha.mono ?_); rintro e w' ⟨rfl, rfl⟩) | ((with_reducible refine hhm.mono ?_); rintro e w' ⟨rfl, rfl⟩)) | (go_at_call 148; refine hhu.mono ?_; rintro e w' ⟨rfl, rfl⟩) | fail)
        go_roundw
        case rel => exact ⟨k + 1, by omega, by go_num, HSK, cg, hq⟩
        case measure => simp [RowKit.intOf]; omega
      | false =>
        cases cB with
        | true =>
          have HSK := Lib.hid (HSK1.out (by rw [HOKx.out]; rfl))
          go_wp2_with (first | (go_at_call 104; first | ((with_reducible refine hha.mono ?_); rintro e w' ⟨rfl, rfl⟩) | ((with_reducible refine hhm.mono ?_); rintro e w' ⟨rfl, rfl⟩)) | (go_at_call 148; refine hhu.mono ?_; rintro e w' ⟨rfl, rfl⟩) | fail)
          go_roundw
          case rel => exact ⟨k + 1, by omega, by go_num, HSK, cg, hq⟩
          case measure => simp [RowKit.intOf]; omega
        | false =>
          cases m0 with
          | true =>
            have HN := Lib.hid (HGO1.out (by rw [HOKx.out]; rfl))
            go_wp2_with (first | (go_at_call 104; first | ((with_reducible refine hha.mono ?_); rintro e w' ⟨rfl, rfl⟩) | ((with_reducible refine hhm.mono ?_); rintro e w' ⟨rfl, rfl⟩)) | (go_at_call 148; refine hhu.mono ?_; rintro e w' ⟨rfl, rfl⟩) | fail)
            refine wp_region_held_drew (S := (fun w' => w'.cell? ⟨w.heap.size, 0, none⟩ = some (.slice (some ⟨gb, goff, none⟩) g.length gcap))) (by kernel_rfl) ?_ (fun hHeld => ?_)
            · first | exact ‹_› | (simp [*, go_sem])
            have hdw : Drawn wi wi.drew := (Drawn.refl _).drew
            generalize wi.drew = wz at hdw hHeld ⊢
            have hqd := hq.trans (hdw.below _)
            have p1 := hHeld
            clear hdw
            refine wpAnyH_take (i := 0) (v := ?v1) (by simp only [List.getElem?_toArray, List.getElem?_cons_zero]; exact rfl) (by kernel_rfl) (by kernel_rfl) (by kernel_rfl) (by intro _ _ _ h; exact h) (Or.inl ⟨by rfl, ?y1⟩) hHeld ?_
            case y1 => (intro w hSw; (try dsimp only at hSw); go_simp; try (with_reducible rfl))
            try simp only [Act.put, List.setIfInBounds_toArray, List.set_cons_zero, List.set_cons_succ]
            refine wpAnyH_take (i := 1) (v := ?v2) (by simp only [List.getElem?_toArray, List.getElem?_cons_succ, List.getElem?_cons_zero]; exact rfl) (by kernel_rfl) (by kernel_rfl) (by kernel_rfl) (by intro _ _ _ h; exact h) (Or.inl ⟨by rfl, ?y2⟩) hHeld ?_
            case y2 => (intro w hSw; (try dsimp only at hSw); go_simp; try (with_reducible rfl))
            try simp only [Act.put, List.setIfInBounds_toArray, List.set_cons_zero, List.set_cons_succ]
            refine wpAnyH_take (i := 3) (v := ?v3) (by simp only [List.getElem?_toArray, List.getElem?_cons_succ, List.getElem?_cons_zero]; exact rfl) (by kernel_rfl) (by kernel_rfl) (by kernel_rfl) (by intro _ _ _ h; exact h) (Or.inl ⟨by rfl, ?y3⟩) hHeld ?_
            case y3 => (intro w hSw; (try dsimp only at hSw); go_simp; try (with_reducible rfl))
            try simp only [Act.put, List.setIfInBounds_toArray, List.set_cons_zero, List.set_cons_succ]
            refine wpAnyH_take (i := 6) (v := ?v4) (by simp only [List.getElem?_toArray, List.getElem?_cons_succ, List.getElem?_cons_zero]; exact rfl) (by kernel_rfl) (by kernel_rfl) (by kernel_rfl) (by intro _ _ _ h; exact h) (Or.inl ⟨by rfl, ?y4⟩) hHeld ?_
            case y4 => (intro w hSw; (try dsimp only at hSw); go_simp; try (with_reducible rfl))
            try simp only [Act.put, List.setIfInBounds_toArray, List.set_cons_zero, List.set_cons_succ]
            refine wpAnyH_take (i := 7) (v := ?v5) (by simp only [List.getElem?_toArray, List.getElem?_cons_succ, List.getElem?_cons_zero]; exact rfl) (by kernel_rfl) (by kernel_rfl) (by kernel_rfl) (by intro _ _ _ h; exact h) (Or.inl ⟨by rfl, ?y5⟩) hHeld ?_
            case y5 => (intro w hSw; (try dsimp only at hSw); go_simp; try (with_reducible rfl))
            try simp only [Act.put, List.setIfInBounds_toArray, List.set_cons_zero, List.set_cons_succ]
            refine wpAnyH_take (i := 8) (v := ?v6) (by simp only [List.getElem?_toArray, List.getElem?_cons_succ, List.getElem?_cons_zero]; exact rfl) (by kernel_rfl) (by kernel_rfl) (by kernel_rfl) (by intro _ _ _ h; exact h) (Or.inl ⟨by rfl, ?y6⟩) hHeld ?_
            case y6 => (intro w hSw; (try dsimp only at hSw); go_simp; try (with_reducible rfl))
            try simp only [Act.put, List.setIfInBounds_toArray, List.set_cons_zero, List.set_cons_succ]
            refine wpAnyH_ready (rs := [2, 4]) (by kernel_rfl) (by simp) ?_
            refine (AllReadyH.cons (by simp only [List.getElem?_toArray, List.getElem?_cons_succ, List.getElem?_cons_zero]; exact rfl) (fun K hK => ?b7_2) (AllReadyH.cons (by simp only [List.getElem?_toArray, List.getElem?_cons_succ, List.getElem?_cons_zero]; exact rfl) (fun K hK => ?b7_4) AllReadyH.nil))
            case b7_2 =>
              go_simp
              with_reducible refine (l1Copy_any _ _ _ (HEV.out.below hqd (Nat.le_refl _)) (by rw [natsI_len]; omega)).mono ?_
              rintro e wy ⟨c, rfl, hc0, hbn⟩
              rw [natsI_len] at hc0
              have hc := hc0.weak (show w.heap.size + 1 ≤ wz.heap.size from cell_lt p1)
              clear hc0
              have hqd := hqd.trans (hbn.mono hqd.size)
              have p1 := (hbn.cell (cell_lt p1)).trans p1
              try have clit := (hbn.cell (cell_lt clit)).trans clit
              obtain ⟨wz, rfl⟩ : ∃ x, x = wy := ⟨_, rfl⟩
              try dsimp only
              refine hK.out _ _ ?h8 (fun hHeld => ?_)
              case h8 => first | exact ‹_› | (simp [*, go_sem])
              clear hK K
              try simp only [Act.put, List.setIfInBounds_toArray, List.set_cons_zero, List.set_cons_succ]
              refine wpAnyH_ready (rs := [4]) (by kernel_rfl) (by simp) ?_
              refine AllReadyH.cons (by simp only [List.getElem?_toArray, List.getElem?_cons_succ, List.getElem?_cons_zero]; exact rfl) (fun K hK => ?_) AllReadyH.nil
              go_simp
              obtain ⟨nb, hnb⟩ : ∃ nb, nb = wz.heap.size := ⟨_, rfl⟩
              rw [← hnb]
              have hbn : Below wz.heap.size wz (wz.alloc (.cells #[.int .i64 (x : Int)] 2)) := (Below.refl _ _).alloc (Nat.le_refl _) _
              have clit : (wz.alloc (.cells #[.int .i64 (x : Int)] 2)).cell? ⟨nb, 0, none⟩ = some (.int .i64 (x : Int)) := (by rw [hnb]; simp [go_sem])
              try have hc := hc.below hbn (Nat.le_refl _)
              have hqd := hqd.trans (hbn.mono hqd.size)
              have p1 := (hbn.cell (cell_lt p1)).trans p1
              clear hnb
              first | generalize wz.alloc (.cells #[.int .i64 (x : Int)] 2) = wy at hbn clit hqd p1 hc ⊢ | generalize wz.alloc (.cells #[.int .i64 (x : Int)] 2) = wy at hbn clit hqd p1 ⊢
              obtain ⟨wz, rfl⟩ : ∃ x, x = wy := ⟨_, rfl⟩
              try dsimp only
              refine hK.out _ _ ?h10 (fun hHeld => ?_)
              case h10 => first | exact ‹_› | (simp [*, go_sem])
              clear hK K
              try simp only [Act.put, List.setIfInBounds_toArray, List.set_cons_zero, List.set_cons_succ]
              refine wpAnyH_ready (rs := [5]) (by kernel_rfl) (by simp) ?_
              refine AllReadyH.cons (by simp only [List.getElem?_toArray, List.getElem?_cons_succ, List.getElem?_cons_zero]; exact rfl) (fun K hK => ?_) AllReadyH.nil
              rw [if_pos (by rfl)]
              refine opWp_append1A elI64 _ _ rfl hc rfl rfl clit rfl (by omega) (cell_lt p1) ?_
              intro v3 w3 ho3 hk3 hm3
              have hq3 := hk3.below hqd hqd.size (fun b hb => by have := (hc.lt b hb).1; omega)
              have ho4 : Own w3 (w.heap.size + 1) 2 1 v3 (p.length + 1) ((natsI (p ++ [x])).map (.int .i64)) := (by rw [HX.out]; exact ho3)
              have p1 := (World.cell?_of_block (a := ⟨w.heap.size, 0, none⟩) (hk3.2.2.2.2 w.heap.size (cell_lt p1) (fun e => by have := (hc.lt _ e.symm).1; omega))).trans p1
              try dsimp only
              refine hK.out _ _ ?h12 (fun hHeld => ?_)
              case h12 => first | exact ‹_› | (simp [*, go_sem])
              clear hK K
              try simp only [Act.put, List.setIfInBounds_toArray, List.set_cons_zero, List.set_cons_succ]
              refine wpAnyH_ready (rs := [9]) (by kernel_rfl) (by simp) ?_
              refine AllReadyH.cons (by simp only [List.getElem?_toArray, List.getElem?_cons_succ, List.getElem?_cons_zero]; exact rfl) (fun K hK => ?_) AllReadyH.nil
              go_simp
              have hih := HIH.out (p ++ [x]) v3 w3 (hgv0.below hq3 (Nat.le_refl _)) (hmv.below hq3 (Nat.le_refl _)) (huv.below hq3 (Nat.le_refl _)) (by simp; omega) (by simp) HPX.out ((Own.ints ho4 (by omega)).weak (fun b hb => by have := (ho4.lt b hb).1; omega)) (by have := hq3.size; omega)
              with_reducible refine hih.mono ?_
              rintro e w4 ⟨y, rfl, hy, hb4⟩
              have hq4 := hq3.trans (hb4.mono hq3.size)
              have p1 := (hb4.cell (cell_lt p1)).trans p1
              try dsimp only
              refine hK.out _ _ ?h14 (fun hHeld => ?_)
              case h14 => first | exact ‹_› | (simp [*, go_sem])
              clear hK K
              try simp only [Act.put, List.setIfInBounds_toArray, List.set_cons_zero, List.set_cons_succ]
              refine wpAnyH_take (i := 10) (v := ?v15) (by simp only [List.getElem?_toArray, List.getElem?_cons_succ, List.getElem?_cons_zero]; exact rfl) (by kernel_rfl) (by kernel_rfl) (by kernel_rfl) (by intro _ _ _ h; exact h) (Or.inl ⟨by rfl, ?y15⟩) hHeld ?_
              case y15 => (intro w hSw; (try dsimp only at hSw); go_simp; try (with_reducible rfl))
              try simp only [Act.put, List.setIfInBounds_toArray, List.set_cons_zero, List.set_cons_succ]
              refine wpAnyH_take (i := 11) (v := ?v16) (by simp only [List.getElem?_toArray, List.getElem?_cons_succ, List.getElem?_cons_zero]; exact rfl) (by kernel_rfl) (by kernel_rfl) (by kernel_rfl) (by intro _ _ _ h; exact h) (Or.inl ⟨by rfl, ?y16⟩) hHeld ?_
              case y16 => (intro w hSw; (try dsimp only at hSw); go_simp; try (with_reducible rfl))
              try simp only [Act.put, List.setIfInBounds_toArray, List.set_cons_zero, List.set_cons_succ]
              refine wpAnyH_take (i := 12) (v := ?v17) (by simp only [List.getElem?_toArray, List.getElem?_cons_succ, List.getElem?_cons_zero]; exact rfl) (by kernel_rfl) (by kernel_rfl) (by kernel_rfl) (by intro _ _ _ h; exact h) (Or.inl ⟨by rfl, ?y17⟩) hHeld ?_
              case y17 => (intro w hSw; (try dsimp only at hSw); go_simp; try (with_reducible rfl))
              try simp only [Act.put, List.setIfInBounds_toArray, List.set_cons_zero, List.set_cons_succ]
              refine wpAnyH_take (i := 13) (v := ?v18) (by simp only [List.getElem?_toArray, List.getElem?_cons_succ, List.getElem?_cons_zero]; exact rfl) (by kernel_rfl) (by kernel_rfl) (by kernel_rfl) (by intro _ _ _ h; exact h) (Or.inl ⟨by rfl, ?y18⟩) hHeld ?_
              case y18 => (intro w hSw; (try dsimp only at hSw); go_simp; try (with_reducible rfl))
              try simp only [Act.put, List.setIfInBounds_toArray, List.set_cons_zero, List.set_cons_succ]
              refine wpAnyH_take (i := 14) (v := ?v19) (by simp only [List.getElem?_toArray, List.getElem?_cons_succ, List.getElem?_cons_zero]; exact rfl) (by kernel_rfl) (by kernel_rfl) (by kernel_rfl) (by intro _ _ _ h; exact h) (Or.inl ⟨by rfl, ?y19⟩) hHeld ?_
              case y19 => (intro w hSw; (try dsimp only at hSw); go_simp; try (with_reducible rfl))
              try simp only [Act.put, List.setIfInBounds_toArray, List.set_cons_zero, List.set_cons_succ]
              refine wpAnyH_done (by kernel_rfl) ?_ _
              have HY := Lib.hid hy
              clear hHeld hih hy ho3 ho4 hk3 hm3 hc clit
              generalize dfsF (candS g m U L) (finS g m U) d (p ++ [x]) = o at *
              cases o
              case some q => (have HR := Lib.hid (show R = some q from HN.out); clear HN; simp only [Option.isSome_some]; go_wp2; refine bodyPost_ret (v := .tuple #[y, .bool true]) (by simp [results, Tryd.results134, go_sem]) rfl ⟨y, by rw [HR.out]; rfl, (fun q' h => by rw [HR.out] at h; cases h; exact HY.out _ rfl), hq4⟩)
              have HN2 := Lib.hid (show R = tryL (fun v => dfsF (candS g m U L) (finS g m U) d (p ++ [v])) ((l.drop (k + 1)).filter ok) from HN.out)
              clear HN
              simp only [Option.isSome_none]
              go_wp2
              go_roundw
              case rel => exact ⟨k + 1, by omega, by go_num, HN2, p1, hq4⟩
              case measure => (simp [RowKit.intOf]; omega)
            case b7_4 =>
              go_simp
              obtain ⟨nb, hnb⟩ : ∃ nb, nb = wz.heap.size := ⟨_, rfl⟩
              rw [← hnb]
              have hbn : Below wz.heap.size wz (wz.alloc (.cells #[.int .i64 (x : Int)] 2)) := (Below.refl _ _).alloc (Nat.le_refl _) _
              have clit : (wz.alloc (.cells #[.int .i64 (x : Int)] 2)).cell? ⟨nb, 0, none⟩ = some (.int .i64 (x : Int)) := (by rw [hnb]; simp [go_sem])
              try have hc := hc.below hbn (Nat.le_refl _)
              have hqd := hqd.trans (hbn.mono hqd.size)
              have p1 := (hbn.cell (cell_lt p1)).trans p1
              clear hnb
              first | generalize wz.alloc (.cells #[.int .i64 (x : Int)] 2) = wy at hbn clit hqd p1 hc ⊢ | generalize wz.alloc (.cells #[.int .i64 (x : Int)] 2) = wy at hbn clit hqd p1 ⊢
              obtain ⟨wz, rfl⟩ : ∃ x, x = wy := ⟨_, rfl⟩
              try dsimp only
              refine hK.out _ _ ?h20 (fun hHeld => ?_)
              case h20 => first | exact ‹_› | (simp [*, go_sem])
              clear hK K
              try simp only [Act.put, List.setIfInBounds_toArray, List.set_cons_zero, List.set_cons_succ]
              refine wpAnyH_ready (rs := [2]) (by kernel_rfl) (by simp) ?_
              refine AllReadyH.cons (by simp only [List.getElem?_toArray, List.getElem?_cons_succ, List.getElem?_cons_zero]; exact rfl) (fun K hK => ?_) AllReadyH.nil
              go_simp
              with_reducible refine (l1Copy_any _ _ _ (HEV.out.below hqd (Nat.le_refl _)) (by rw [natsI_len]; omega)).mono ?_
              rintro e wy ⟨c, rfl, hc0, hbn⟩
              rw [natsI_len] at hc0
              have hc := hc0.weak (show w.heap.size + 1 ≤ wz.heap.size from cell_lt p1)
              clear hc0
              have hqd := hqd.trans (hbn.mono hqd.size)
              have p1 := (hbn.cell (cell_lt p1)).trans p1
              try have clit := (hbn.cell (cell_lt clit)).trans clit
              obtain ⟨wz, rfl⟩ : ∃ x, x = wy := ⟨_, rfl⟩
              try dsimp only
              refine hK.out _ _ ?h22 (fun hHeld => ?_)
              case h22 => first | exact ‹_› | (simp [*, go_sem])
              clear hK K
              try simp only [Act.put, List.setIfInBounds_toArray, List.set_cons_zero, List.set_cons_succ]
              refine wpAnyH_ready (rs := [5]) (by kernel_rfl) (by simp) ?_
              refine AllReadyH.cons (by simp only [List.getElem?_toArray, List.getElem?_cons_succ, List.getElem?_cons_zero]; exact rfl) (fun K hK => ?_) AllReadyH.nil
              rw [if_pos (by rfl)]
              refine opWp_append1A elI64 _ _ rfl hc rfl rfl clit rfl (by omega) (cell_lt p1) ?_
              intro v3 w3 ho3 hk3 hm3
              have hq3 := hk3.below hqd hqd.size (fun b hb => by have := (hc.lt b hb).1; omega)
              have ho4 : Own w3 (w.heap.size + 1) 2 1 v3 (p.length + 1) ((natsI (p ++ [x])).map (.int .i64)) := (by rw [HX.out]; exact ho3)
              have p1 := (World.cell?_of_block (a := ⟨w.heap.size, 0, none⟩) (hk3.2.2.2.2 w.heap.size (cell_lt p1) (fun e => by have := (hc.lt _ e.symm).1; omega))).trans p1
              try dsimp only
              refine hK.out _ _ ?h24 (fun hHeld => ?_)
              case h24 => first | exact ‹_› | (simp [*, go_sem])
              clear hK K
              try simp only [Act.put, List.setIfInBounds_toArray, List.set_cons_zero, List.set_cons_succ]
              refine wpAnyH_ready (rs := [9]) (by kernel_rfl) (by simp) ?_
              refine AllReadyH.cons (by simp only [List.getElem?_toArray, List.getElem?_cons_succ, List.getElem?_cons_zero]; exact rfl) (fun K hK => ?_) AllReadyH.nil
              go_simp
              have hih := HIH.out (p ++ [x]) v3 w3 (hgv0.below hq3 (Nat.le_refl _)) (hmv.below hq3 (Nat.le_refl _)) (huv.below hq3 (Nat.le_refl _)) (by simp; omega) (by simp) HPX.out ((Own.ints ho4 (by omega)).weak (fun b hb => by have := (ho4.lt b hb).1; omega)) (by have := hq3.size; omega)
              with_reducible refine hih.mono ?_
              rintro e w4 ⟨y, rfl, hy, hb4⟩
              have hq4 := hq3.trans (hb4.mono hq3.size)
              have p1 := (hb4.cell (cell_lt p1)).trans p1
              try dsimp only
              refine hK.out _ _ ?h26 (fun hHeld => ?_)
              case h26 => first | exact ‹_› | (simp [*, go_sem])
              clear hK K
              try simp only [Act.put, List.setIfInBounds_toArray, List.set_cons_zero, List.set_cons_succ]
              refine wpAnyH_take (i := 10) (v := ?v27) (by simp only [List.getElem?_toArray, List.getElem?_cons_succ, List.getElem?_cons_zero]; exact rfl) (by kernel_rfl) (by kernel_rfl) (by kernel_rfl) (by intro _ _ _ h; exact h) (Or.inl ⟨by rfl, ?y27⟩) hHeld ?_
              case y27 => (intro w hSw; (try dsimp only at hSw); go_simp; try (with_reducible rfl))
              try simp only [Act.put, List.setIfInBounds_toArray, List.set_cons_zero, List.set_cons_succ]
              refine wpAnyH_take (i := 11) (v := ?v28) (by simp only [List.getElem?_toArray, List.getElem?_cons_succ, List.getElem?_cons_zero]; exact rfl) (by kernel_rfl) (by kernel_rfl) (by kernel_rfl) (by intro _ _ _ h; exact h) (Or.inl ⟨by rfl, ?y28⟩) hHeld ?_
              case y28 => (intro w hSw; (try dsimp only at hSw); go_simp; try (with_reducible rfl))
              try simp only [Act.put, List.setIfInBounds_toArray, List.set_cons_zero, List.set_cons_succ]
              refine wpAnyH_take (i := 12) (v := ?v29) (by simp only [List.getElem?_toArray, List.getElem?_cons_succ, List.getElem?_cons_zero]; exact rfl) (by kernel_rfl) (by kernel_rfl) (by kernel_rfl) (by intro _ _ _ h; exact h) (Or.inl ⟨by rfl, ?y29⟩) hHeld ?_
              case y29 => (intro w hSw; (try dsimp only at hSw); go_simp; try (with_reducible rfl))
              try simp only [Act.put, List.setIfInBounds_toArray, List.set_cons_zero, List.set_cons_succ]
              refine wpAnyH_take (i := 13) (v := ?v30) (by simp only [List.getElem?_toArray, List.getElem?_cons_succ, List.getElem?_cons_zero]; exact rfl) (by kernel_rfl) (by kernel_rfl) (by kernel_rfl) (by intro _ _ _ h; exact h) (Or.inl ⟨by rfl, ?y30⟩) hHeld ?_
              case y30 => (intro w hSw; (try dsimp only at hSw); go_simp; try (with_reducible rfl))
              try simp only [Act.put, List.setIfInBounds_toArray, List.set_cons_zero, List.set_cons_succ]
              refine wpAnyH_take (i := 14) (v := ?v31) (by simp only [List.getElem?_toArray, List.getElem?_cons_succ, List.getElem?_cons_zero]; exact rfl) (by kernel_rfl) (by kernel_rfl) (by kernel_rfl) (by intro _ _ _ h; exact h) (Or.inl ⟨by rfl, ?y31⟩) hHeld ?_
              case y31 => (intro w hSw; (try dsimp only at hSw); go_simp; try (with_reducible rfl))
              try simp only [Act.put, List.setIfInBounds_toArray, List.set_cons_zero, List.set_cons_succ]
              refine wpAnyH_done (by kernel_rfl) ?_ _
              have HY := Lib.hid hy
              clear hHeld hih hy ho3 ho4 hk3 hm3 hc clit
              generalize dfsF (candS g m U L) (finS g m U) d (p ++ [x]) = o at *
              cases o
              case some q => (have HR := Lib.hid (show R = some q from HN.out); clear HN; simp only [Option.isSome_some]; go_wp2; refine bodyPost_ret (v := .tuple #[y, .bool true]) (by simp [results, Tryd.results134, go_sem]) rfl ⟨y, by rw [HR.out]; rfl, (fun q' h => by rw [HR.out] at h; cases h; exact HY.out _ rfl), hq4⟩)
              have HN2 := Lib.hid (show R = tryL (fun v => dfsF (candS g m U L) (finS g m U) d (p ++ [v])) ((l.drop (k + 1)).filter ok) from HN.out)
              clear HN
              simp only [Option.isSome_none]
              go_wp2
              go_roundw
              case rel => exact ⟨k + 1, by omega, by go_num, HN2, p1, hq4⟩
              case measure => (simp [RowKit.intOf]; omega)
          | false =>
            cases hti : (tb == inn) with
            | true =>
              have HSK := Lib.hid (HSK1.out (by rw [HOKx.out, hti]; rfl))
              go_wp2_with (first | (go_at_call 104; first | ((with_reducible refine hha.mono ?_); rintro e w' ⟨rfl, rfl⟩) | ((with_reducible refine hhm.mono ?_); rintro e w' ⟨rfl, rfl⟩)) | (go_at_call 148; refine hhu.mono ?_; rintro e w' ⟨rfl, rfl⟩) | fail)
              go_roundw
              case rel => exact ⟨k + 1, by omega, by go_num, HSK, cg, hq⟩
              case measure => simp [RowKit.intOf]; omega
            | false =>
              have HN := Lib.hid (HGO1.out (by rw [HOKx.out, hti]; rfl))
              go_wp2_with (first | (go_at_call 104; first | ((with_reducible refine hha.mono ?_); rintro e w' ⟨rfl, rfl⟩) | ((with_reducible refine hhm.mono ?_); rintro e w' ⟨rfl, rfl⟩)) | (go_at_call 148; refine hhu.mono ?_; rintro e w' ⟨rfl, rfl⟩) | fail)
              refine wp_region_held_drew (S := (fun w' => w'.cell? ⟨w.heap.size, 0, none⟩ = some (.slice (some ⟨gb, goff, none⟩) g.length gcap))) (by kernel_rfl) ?_ (fun hHeld => ?_)
              · first | exact ‹_› | (simp [*, go_sem])
              have hdw : Drawn wi wi.drew := (Drawn.refl _).drew
              generalize wi.drew = wz at hdw hHeld ⊢
              have hqd := hq.trans (hdw.below _)
              have p1 := hHeld
              clear hdw
              refine wpAnyH_take (i := 0) (v := ?v32) (by simp only [List.getElem?_toArray, List.getElem?_cons_zero]; exact rfl) (by kernel_rfl) (by kernel_rfl) (by kernel_rfl) (by intro _ _ _ h; exact h) (Or.inl ⟨by rfl, ?y32⟩) hHeld ?_
              case y32 => (intro w hSw; (try dsimp only at hSw); go_simp; try (with_reducible rfl))
              try simp only [Act.put, List.setIfInBounds_toArray, List.set_cons_zero, List.set_cons_succ]
              refine wpAnyH_take (i := 1) (v := ?v33) (by simp only [List.getElem?_toArray, List.getElem?_cons_succ, List.getElem?_cons_zero]; exact rfl) (by kernel_rfl) (by kernel_rfl) (by kernel_rfl) (by intro _ _ _ h; exact h) (Or.inl ⟨by rfl, ?y33⟩) hHeld ?_
              case y33 => (intro w hSw; (try dsimp only at hSw); go_simp; try (with_reducible rfl))
              try simp only [Act.put, List.setIfInBounds_toArray, List.set_cons_zero, List.set_cons_succ]
              refine wpAnyH_take (i := 3) (v := ?v34) (by simp only [List.getElem?_toArray, List.getElem?_cons_succ, List.getElem?_cons_zero]; exact rfl) (by kernel_rfl) (by kernel_rfl) (by kernel_rfl) (by intro _ _ _ h; exact h) (Or.inl ⟨by rfl, ?y34⟩) hHeld ?_
              case y34 => (intro w hSw; (try dsimp only at hSw); go_simp; try (with_reducible rfl))
              try simp only [Act.put, List.setIfInBounds_toArray, List.set_cons_zero, List.set_cons_succ]
              refine wpAnyH_take (i := 6) (v := ?v35) (by simp only [List.getElem?_toArray, List.getElem?_cons_succ, List.getElem?_cons_zero]; exact rfl) (by kernel_rfl) (by kernel_rfl) (by kernel_rfl) (by intro _ _ _ h; exact h) (Or.inl ⟨by rfl, ?y35⟩) hHeld ?_
              case y35 => (intro w hSw; (try dsimp only at hSw); go_simp; try (with_reducible rfl))
              try simp only [Act.put, List.setIfInBounds_toArray, List.set_cons_zero, List.set_cons_succ]
              refine wpAnyH_take (i := 7) (v := ?v36) (by simp only [List.getElem?_toArray, List.getElem?_cons_succ, List.getElem?_cons_zero]; exact rfl) (by kernel_rfl) (by kernel_rfl) (by kernel_rfl) (by intro _ _ _ h; exact h) (Or.inl ⟨by rfl, ?y36⟩) hHeld ?_
              case y36 => (intro w hSw; (try dsimp only at hSw); go_simp; try (with_reducible rfl))
              try simp only [Act.put, List.setIfInBounds_toArray, List.set_cons_zero, List.set_cons_succ]
              refine wpAnyH_take (i := 8) (v := ?v37) (by simp only [List.getElem?_toArray, List.getElem?_cons_succ, List.getElem?_cons_zero]; exact rfl) (by kernel_rfl) (by kernel_rfl) (by kernel_rfl) (by intro _ _ _ h; exact h) (Or.inl ⟨by rfl, ?y37⟩) hHeld ?_
              case y37 => (intro w hSw; (try dsimp only at hSw); go_simp; try (with_reducible rfl))
              try simp only [Act.put, List.setIfInBounds_toArray, List.set_cons_zero, List.set_cons_succ]
              refine wpAnyH_ready (rs := [2, 4]) (by kernel_rfl) (by simp) ?_
              refine (AllReadyH.cons (by simp only [List.getElem?_toArray, List.getElem?_cons_succ, List.getElem?_cons_zero]; exact rfl) (fun K hK => ?b38_2) (AllReadyH.cons (by simp only [List.getElem?_toArray, List.getElem?_cons_succ, List.getElem?_cons_zero]; exact rfl) (fun K hK => ?b38_4) AllReadyH.nil))
              case b38_2 =>
                go_simp
                with_reducible refine (l1Copy_any _ _ _ (HEV.out.below hqd (Nat.le_refl _)) (by rw [natsI_len]; omega)).mono ?_
                rintro e wy ⟨c, rfl, hc0, hbn⟩
                rw [natsI_len] at hc0
                have hc := hc0.weak (show w.heap.size + 1 ≤ wz.heap.size from cell_lt p1)
                clear hc0
                have hqd := hqd.trans (hbn.mono hqd.size)
                have p1 := (hbn.cell (cell_lt p1)).trans p1
                try have clit := (hbn.cell (cell_lt clit)).trans clit
                obtain ⟨wz, rfl⟩ : ∃ x, x = wy := ⟨_, rfl⟩
                try dsimp only
                refine hK.out _ _ ?h39 (fun hHeld => ?_)
                case h39 => first | exact ‹_› | (simp [*, go_sem])
                clear hK K
                try simp only [Act.put, List.setIfInBounds_toArray, List.set_cons_zero, List.set_cons_succ]
                refine wpAnyH_ready (rs := [4]) (by kernel_rfl) (by simp) ?_
                refine AllReadyH.cons (by simp only [List.getElem?_toArray, List.getElem?_cons_succ, List.getElem?_cons_zero]; exact rfl) (fun K hK => ?_) AllReadyH.nil
                go_simp
                obtain ⟨nb, hnb⟩ : ∃ nb, nb = wz.heap.size := ⟨_, rfl⟩
                rw [← hnb]
                have hbn : Below wz.heap.size wz (wz.alloc (.cells #[.int .i64 (x : Int)] 2)) := (Below.refl _ _).alloc (Nat.le_refl _) _
                have clit : (wz.alloc (.cells #[.int .i64 (x : Int)] 2)).cell? ⟨nb, 0, none⟩ = some (.int .i64 (x : Int)) := (by rw [hnb]; simp [go_sem])
                try have hc := hc.below hbn (Nat.le_refl _)
                have hqd := hqd.trans (hbn.mono hqd.size)
                have p1 := (hbn.cell (cell_lt p1)).trans p1
                clear hnb
                first | generalize wz.alloc (.cells #[.int .i64 (x : Int)] 2) = wy at hbn clit hqd p1 hc ⊢ | generalize wz.alloc (.cells #[.int .i64 (x : Int)] 2) = wy at hbn clit hqd p1 ⊢
                obtain ⟨wz, rfl⟩ : ∃ x, x = wy := ⟨_, rfl⟩
                try dsimp only
                refine hK.out _ _ ?h41 (fun hHeld => ?_)
                case h41 => first | exact ‹_› | (simp [*, go_sem])
                clear hK K
                try simp only [Act.put, List.setIfInBounds_toArray, List.set_cons_zero, List.set_cons_succ]
                refine wpAnyH_ready (rs := [5]) (by kernel_rfl) (by simp) ?_
                refine AllReadyH.cons (by simp only [List.getElem?_toArray, List.getElem?_cons_succ, List.getElem?_cons_zero]; exact rfl) (fun K hK => ?_) AllReadyH.nil
                rw [if_pos (by rfl)]
                refine opWp_append1A elI64 _ _ rfl hc rfl rfl clit rfl (by omega) (cell_lt p1) ?_
                intro v3 w3 ho3 hk3 hm3
                have hq3 := hk3.below hqd hqd.size (fun b hb => by have := (hc.lt b hb).1; omega)
                have ho4 : Own w3 (w.heap.size + 1) 2 1 v3 (p.length + 1) ((natsI (p ++ [x])).map (.int .i64)) := (by rw [HX.out]; exact ho3)
                have p1 := (World.cell?_of_block (a := ⟨w.heap.size, 0, none⟩) (hk3.2.2.2.2 w.heap.size (cell_lt p1) (fun e => by have := (hc.lt _ e.symm).1; omega))).trans p1
                try dsimp only
                refine hK.out _ _ ?h43 (fun hHeld => ?_)
                case h43 => first | exact ‹_› | (simp [*, go_sem])
                clear hK K
                try simp only [Act.put, List.setIfInBounds_toArray, List.set_cons_zero, List.set_cons_succ]
                refine wpAnyH_ready (rs := [9]) (by kernel_rfl) (by simp) ?_
                refine AllReadyH.cons (by simp only [List.getElem?_toArray, List.getElem?_cons_succ, List.getElem?_cons_zero]; exact rfl) (fun K hK => ?_) AllReadyH.nil
                go_simp
                have hih := HIH.out (p ++ [x]) v3 w3 (hgv0.below hq3 (Nat.le_refl _)) (hmv.below hq3 (Nat.le_refl _)) (huv.below hq3 (Nat.le_refl _)) (by simp; omega) (by simp) HPX.out ((Own.ints ho4 (by omega)).weak (fun b hb => by have := (ho4.lt b hb).1; omega)) (by have := hq3.size; omega)
                with_reducible refine hih.mono ?_
                rintro e w4 ⟨y, rfl, hy, hb4⟩
                have hq4 := hq3.trans (hb4.mono hq3.size)
                have p1 := (hb4.cell (cell_lt p1)).trans p1
                try dsimp only
                refine hK.out _ _ ?h45 (fun hHeld => ?_)
                case h45 => first | exact ‹_› | (simp [*, go_sem])
                clear hK K
                try simp only [Act.put, List.setIfInBounds_toArray, List.set_cons_zero, List.set_cons_succ]
                refine wpAnyH_take (i := 10) (v := ?v46) (by simp only [List.getElem?_toArray, List.getElem?_cons_succ, List.getElem?_cons_zero]; exact rfl) (by kernel_rfl) (by kernel_rfl) (by kernel_rfl) (by intro _ _ _ h; exact h) (Or.inl ⟨by rfl, ?y46⟩) hHeld ?_
                case y46 => (intro w hSw; (try dsimp only at hSw); go_simp; try (with_reducible rfl))
                try simp only [Act.put, List.setIfInBounds_toArray, List.set_cons_zero, List.set_cons_succ]
                refine wpAnyH_take (i := 11) (v := ?v47) (by simp only [List.getElem?_toArray, List.getElem?_cons_succ, List.getElem?_cons_zero]; exact rfl) (by kernel_rfl) (by kernel_rfl) (by kernel_rfl) (by intro _ _ _ h; exact h) (Or.inl ⟨by rfl, ?y47⟩) hHeld ?_
                case y47 => (intro w hSw; (try dsimp only at hSw); go_simp; try (with_reducible rfl))
                try simp only [Act.put, List.setIfInBounds_toArray, List.set_cons_zero, List.set_cons_succ]
                refine wpAnyH_take (i := 12) (v := ?v48) (by simp only [List.getElem?_toArray, List.getElem?_cons_succ, List.getElem?_cons_zero]; exact rfl) (by kernel_rfl) (by kernel_rfl) (by kernel_rfl) (by intro _ _ _ h; exact h) (Or.inl ⟨by rfl, ?y48⟩) hHeld ?_
                case y48 => (intro w hSw; (try dsimp only at hSw); go_simp; try (with_reducible rfl))
                try simp only [Act.put, List.setIfInBounds_toArray, List.set_cons_zero, List.set_cons_succ]
                refine wpAnyH_take (i := 13) (v := ?v49) (by simp only [List.getElem?_toArray, List.getElem?_cons_succ, List.getElem?_cons_zero]; exact rfl) (by kernel_rfl) (by kernel_rfl) (by kernel_rfl) (by intro _ _ _ h; exact h) (Or.inl ⟨by rfl, ?y49⟩) hHeld ?_
                case y49 => (intro w hSw; (try dsimp only at hSw); go_simp; try (with_reducible rfl))
                try simp only [Act.put, List.setIfInBounds_toArray, List.set_cons_zero, List.set_cons_succ]
                refine wpAnyH_take (i := 14) (v := ?v50) (by simp only [List.getElem?_toArray, List.getElem?_cons_succ, List.getElem?_cons_zero]; exact rfl) (by kernel_rfl) (by kernel_rfl) (by kernel_rfl) (by intro _ _ _ h; exact h) (Or.inl ⟨by rfl, ?y50⟩) hHeld ?_
                case y50 => (intro w hSw; (try dsimp only at hSw); go_simp; try (with_reducible rfl))
                try simp only [Act.put, List.setIfInBounds_toArray, List.set_cons_zero, List.set_cons_succ]
                refine wpAnyH_done (by kernel_rfl) ?_ _
                have HY := Lib.hid hy
                clear hHeld hih hy ho3 ho4 hk3 hm3 hc clit
                generalize dfsF (candS g m U L) (finS g m U) d (p ++ [x]) = o at *
                cases o
                case some q => (have HR := Lib.hid (show R = some q from HN.out); clear HN; simp only [Option.isSome_some]; go_wp2; refine bodyPost_ret (v := .tuple #[y, .bool true]) (by simp [results, Tryd.results134, go_sem]) rfl ⟨y, by rw [HR.out]; rfl, (fun q' h => by rw [HR.out] at h; cases h; exact HY.out _ rfl), hq4⟩)
                have HN2 := Lib.hid (show R = tryL (fun v => dfsF (candS g m U L) (finS g m U) d (p ++ [v])) ((l.drop (k + 1)).filter ok) from HN.out)
                clear HN
                simp only [Option.isSome_none]
                go_wp2
                go_roundw
                case rel => exact ⟨k + 1, by omega, by go_num, HN2, p1, hq4⟩
                case measure => (simp [RowKit.intOf]; omega)
              case b38_4 =>
                go_simp
                obtain ⟨nb, hnb⟩ : ∃ nb, nb = wz.heap.size := ⟨_, rfl⟩
                rw [← hnb]
                have hbn : Below wz.heap.size wz (wz.alloc (.cells #[.int .i64 (x : Int)] 2)) := (Below.refl _ _).alloc (Nat.le_refl _) _
                have clit : (wz.alloc (.cells #[.int .i64 (x : Int)] 2)).cell? ⟨nb, 0, none⟩ = some (.int .i64 (x : Int)) := (by rw [hnb]; simp [go_sem])
                try have hc := hc.below hbn (Nat.le_refl _)
                have hqd := hqd.trans (hbn.mono hqd.size)
                have p1 := (hbn.cell (cell_lt p1)).trans p1
                clear hnb
                first | generalize wz.alloc (.cells #[.int .i64 (x : Int)] 2) = wy at hbn clit hqd p1 hc ⊢ | generalize wz.alloc (.cells #[.int .i64 (x : Int)] 2) = wy at hbn clit hqd p1 ⊢
                obtain ⟨wz, rfl⟩ : ∃ x, x = wy := ⟨_, rfl⟩
                try dsimp only
                refine hK.out _ _ ?h51 (fun hHeld => ?_)
                case h51 => first | exact ‹_› | (simp [*, go_sem])
                clear hK K
                try simp only [Act.put, List.setIfInBounds_toArray, List.set_cons_zero, List.set_cons_succ]
                refine wpAnyH_ready (rs := [2]) (by kernel_rfl) (by simp) ?_
                refine AllReadyH.cons (by simp only [List.getElem?_toArray, List.getElem?_cons_succ, List.getElem?_cons_zero]; exact rfl) (fun K hK => ?_) AllReadyH.nil
                go_simp
                with_reducible refine (l1Copy_any _ _ _ (HEV.out.below hqd (Nat.le_refl _)) (by rw [natsI_len]; omega)).mono ?_
                rintro e wy ⟨c, rfl, hc0, hbn⟩
                rw [natsI_len] at hc0
                have hc := hc0.weak (show w.heap.size + 1 ≤ wz.heap.size from cell_lt p1)
                clear hc0
                have hqd := hqd.trans (hbn.mono hqd.size)
                have p1 := (hbn.cell (cell_lt p1)).trans p1
                try have clit := (hbn.cell (cell_lt clit)).trans clit
                obtain ⟨wz, rfl⟩ : ∃ x, x = wy := ⟨_, rfl⟩
                try dsimp only
                refine hK.out _ _ ?h53 (fun hHeld => ?_)
                case h53 => first | exact ‹_› | (simp [*, go_sem])
                clear hK K
                try simp only [Act.put, List.setIfInBounds_toArray, List.set_cons_zero, List.set_cons_succ]
                refine wpAnyH_ready (rs := [5]) (by kernel_rfl) (by simp) ?_
                refine AllReadyH.cons (by simp only [List.getElem?_toArray, List.getElem?_cons_succ, List.getElem?_cons_zero]; exact rfl) (fun K hK => ?_) AllReadyH.nil
                rw [if_pos (by rfl)]
                refine opWp_append1A elI64 _ _ rfl hc rfl rfl clit rfl (by omega) (cell_lt p1) ?_
                intro v3 w3 ho3 hk3 hm3
                have hq3 := hk3.below hqd hqd.size (fun b hb => by have := (hc.lt b hb).1; omega)
                have ho4 : Own w3 (w.heap.size + 1) 2 1 v3 (p.length + 1) ((natsI (p ++ [x])).map (.int .i64)) := (by rw [HX.out]; exact ho3)
                have p1 := (World.cell?_of_block (a := ⟨w.heap.size, 0, none⟩) (hk3.2.2.2.2 w.heap.size (cell_lt p1) (fun e => by have := (hc.lt _ e.symm).1; omega))).trans p1
                try dsimp only
                refine hK.out _ _ ?h55 (fun hHeld => ?_)
                case h55 => first | exact ‹_› | (simp [*, go_sem])
                clear hK K
                try simp only [Act.put, List.setIfInBounds_toArray, List.set_cons_zero, List.set_cons_succ]
                refine wpAnyH_ready (rs := [9]) (by kernel_rfl) (by simp) ?_
                refine AllReadyH.cons (by simp only [List.getElem?_toArray, List.getElem?_cons_succ, List.getElem?_cons_zero]; exact rfl) (fun K hK => ?_) AllReadyH.nil
                go_simp
                have hih := HIH.out (p ++ [x]) v3 w3 (hgv0.below hq3 (Nat.le_refl _)) (hmv.below hq3 (Nat.le_refl _)) (huv.below hq3 (Nat.le_refl _)) (by simp; omega) (by simp) HPX.out ((Own.ints ho4 (by omega)).weak (fun b hb => by have := (ho4.lt b hb).1; omega)) (by have := hq3.size; omega)
                with_reducible refine hih.mono ?_
                rintro e w4 ⟨y, rfl, hy, hb4⟩
                have hq4 := hq3.trans (hb4.mono hq3.size)
                have p1 := (hb4.cell (cell_lt p1)).trans p1
                try dsimp only
                refine hK.out _ _ ?h57 (fun hHeld => ?_)
                case h57 => first | exact ‹_› | (simp [*, go_sem])
                clear hK K
                try simp only [Act.put, List.setIfInBounds_toArray, List.set_cons_zero, List.set_cons_succ]
                refine wpAnyH_take (i := 10) (v := ?v58) (by simp only [List.getElem?_toArray, List.getElem?_cons_succ, List.getElem?_cons_zero]; exact rfl) (by kernel_rfl) (by kernel_rfl) (by kernel_rfl) (by intro _ _ _ h; exact h) (Or.inl ⟨by rfl, ?y58⟩) hHeld ?_
                case y58 => (intro w hSw; (try dsimp only at hSw); go_simp; try (with_reducible rfl))
                try simp only [Act.put, List.setIfInBounds_toArray, List.set_cons_zero, List.set_cons_succ]
                refine wpAnyH_take (i := 11) (v := ?v59) (by simp only [List.getElem?_toArray, List.getElem?_cons_succ, List.getElem?_cons_zero]; exact rfl) (by kernel_rfl) (by kernel_rfl) (by kernel_rfl) (by intro _ _ _ h; exact h) (Or.inl ⟨by rfl, ?y59⟩) hHeld ?_
                case y59 => (intro w hSw; (try dsimp only at hSw); go_simp; try (with_reducible rfl))
                try simp only [Act.put, List.setIfInBounds_toArray, List.set_cons_zero, List.set_cons_succ]
                refine wpAnyH_take (i := 12) (v := ?v60) (by simp only [List.getElem?_toArray, List.getElem?_cons_succ, List.getElem?_cons_zero]; exact rfl) (by kernel_rfl) (by kernel_rfl) (by kernel_rfl) (by intro _ _ _ h; exact h) (Or.inl ⟨by rfl, ?y60⟩) hHeld ?_
                case y60 => (intro w hSw; (try dsimp only at hSw); go_simp; try (with_reducible rfl))
                try simp only [Act.put, List.setIfInBounds_toArray, List.set_cons_zero, List.set_cons_succ]
                refine wpAnyH_take (i := 13) (v := ?v61) (by simp only [List.getElem?_toArray, List.getElem?_cons_succ, List.getElem?_cons_zero]; exact rfl) (by kernel_rfl) (by kernel_rfl) (by kernel_rfl) (by intro _ _ _ h; exact h) (Or.inl ⟨by rfl, ?y61⟩) hHeld ?_
                case y61 => (intro w hSw; (try dsimp only at hSw); go_simp; try (with_reducible rfl))
                try simp only [Act.put, List.setIfInBounds_toArray, List.set_cons_zero, List.set_cons_succ]
                refine wpAnyH_take (i := 14) (v := ?v62) (by simp only [List.getElem?_toArray, List.getElem?_cons_succ, List.getElem?_cons_zero]; exact rfl) (by kernel_rfl) (by kernel_rfl) (by kernel_rfl) (by intro _ _ _ h; exact h) (Or.inl ⟨by rfl, ?y62⟩) hHeld ?_
                case y62 => (intro w hSw; (try dsimp only at hSw); go_simp; try (with_reducible rfl))
                try simp only [Act.put, List.setIfInBounds_toArray, List.set_cons_zero, List.set_cons_succ]
                refine wpAnyH_done (by kernel_rfl) ?_ _
                have HY := Lib.hid hy
                clear hHeld hih hy ho3 ho4 hk3 hm3 hc clit
                generalize dfsF (candS g m U L) (finS g m U) d (p ++ [x]) = o at *
                cases o
                case some q => (have HR := Lib.hid (show R = some q from HN.out); clear HN; simp only [Option.isSome_some]; go_wp2; refine bodyPost_ret (v := .tuple #[y, .bool true]) (by simp [results, Tryd.results134, go_sem]) rfl ⟨y, by rw [HR.out]; rfl, (fun q' h => by rw [HR.out] at h; cases h; exact HY.out _ rfl), hq4⟩)
                have HN2 := Lib.hid (show R = tryL (fun v => dfsF (candS g m U L) (finS g m U) d (p ++ [v])) ((l.drop (k + 1)).filter ok) from HN.out)
                clear HN
                simp only [Option.isSome_none]
                go_wp2
                go_roundw
                case rel => exact ⟨k + 1, by omega, by go_num, HN2, p1, hq4⟩
                case measure => (simp [RowKit.intOf]; omega)
set_option maxRecDepth 100000 in
set_option maxHeartbeats 16000000 in
theorem l19Next_any {S S2 S3 : Nat → Prop} {gv mv uv : Value} {g : List (List Int)} {m : Nat} {U : List NP} {w : World} (hg : GOk g) (hm : m < 2 ^ g.length) (hgv : SlR S w gv g) (hmv : SlI S2 w .i64 mv (bitsI m)) (huv : SlR S3 w uv (rowsP U)) :
    Calls Tryd.prog 66 #[.agg #[gv], mv, uv] w fun e w' => ∃ x, e = .returned x ∧ ((∀ q, ¬ EarG g m U q) ∨ ∃ q, LeastG (EarG g m U) q ∧ SlI (fun b => w.heap.size ≤ b) w' .i64 x (natsI q)) ∧ Below w.heap.size w w' := by
  have h16 := hg.hi
  have hlo := hg.lo
  have hb0 : Below w.heap.size w (w.alloc (.cells #[gv] 27)) := (Below.refl _ _).alloc (Nat.le_refl _) _
  have hgv0 := hgv
  obtain ⟨ga, gc, rfl⟩ := hgv.slice
  have c0 : (w.alloc (.cells #[.slice ga g.length gc] 27)).cell? ⟨w.heap.size, 0, none⟩ = some (.slice ga g.length gc) := by simp [go_sem]
  have hm32 := Nat.lt_trans hm (pow16_lt h16)
  have HG := Lib.hid hg
  have HM := Lib.hid hm
  have HFL : RowKit.Hid (∀ x ∈ fromN m, x < g.length) := Lib.hid (fun x hx => by
    unfold fromN at hx
    split at hx
    · simp at hx; omega
    · exact bit_lt_of hm ((mem_bitsN hm32).1 hx))
  have HN0 : RowKit.Hid (NoF (EarG g m U) (fromN m) 2 0) := Lib.hid (NoF.start fun q hq => ⟨(ear_from hg hm hq).1, (ear_from hg hm hq).2.2⟩)
  have hbl : (bitsI m).length ≤ 32 := by rw [show bitsI m = natsI (bitsN m) by simp [bitsI, natsI], natsI_len]; exact popN_32 m
  have hmz : (bitsI m).length = 0 ↔ m = 0 := by rw [← bitsI_nil hm32]; exact List.length_eq_zero_iff
  have hfl32 : (fromN m).length ≤ 32 := by
    unfold fromN
    split
    · simp
    · exact popN_32 m
  by_cases h0 : m = 0
  case pos =>
    have hl0 := hmz.2 h0
    have HFE := Lib.hid (show fromN m = [0] by unfold fromN; rw [if_pos h0])
    have he1 : (((bitsI m).length : Int) == 0) = true := by rw [hl0]; rfl
    have he2 : ((bitsI m).length == 0) = true := by rw [hl0]; rfl
    obtain ⟨ma, mc, rfl⟩ := hmv.slice
    have hb1 : Below (w.alloc (.cells #[.slice ga g.length gc] 27)).heap.size (w.alloc (.cells #[.slice ga g.length gc] 27)) ((w.alloc (.cells #[.slice ga g.length gc] 27)).alloc (.cells #[.int .i64 0] 2)) := (Below.refl _ _).alloc (Nat.le_refl _) _
    have hqf := hb0.trans (hb1.mono hb0.size)
    have cf := (hb1.cell (cell_lt c0)).trans c0
    have hfv0 : SlI (fun _ => True) ((w.alloc (.cells #[.slice ga g.length gc] 27)).alloc (.cells #[.int .i64 0] 2)) .i64 (.slice (some ⟨w.heap.size + 1, 0, none⟩) 1 1) (natsI [0]) := by
      have := own_new (w.alloc (.cells #[.slice ga g.length gc] 27)) 0 2 (.int .i64 0) (Nat.zero_le _)
      rw [show (w.alloc (.cells #[.slice ga g.length gc] 27)).heap.size = w.heap.size + 1 by simp] at this
      exact (Own.ints (xs := natsI [0]) (k := .i64) (by simpa [natsI] using this) (by omega)).weak (fun _ _ => trivial)
    obtain ⟨fa, hfa⟩ : ∃ fa, fa = (some ⟨w.heap.size + 1, 0, none⟩ : Option Addr) := ⟨_, rfl⟩
    obtain ⟨fc, hfc⟩ : ∃ fc : Nat, fc = 1 := ⟨_, rfl⟩
    have hfv : SlI (fun _ => True) ((w.alloc (.cells #[.slice ga g.length gc] 27)).alloc (.cells #[.int .i64 0] 2)) .i64 (.slice fa (fromN m).length fc) (natsI (fromN m)) := by
      rw [HFE.out, hfa, hfc]; exact hfv0
    have HFV : RowKit.Hid (Value.slice (some ⟨w.heap.size + 1, 0, none⟩) 1 1 = .slice fa (fromN m).length fc) := Lib.hid (by rw [HFE.out, hfa, hfc]; rfl)
    clear hfv0 hfa hfc hb1 hb0 c0 hmz hl0 h0
    generalize (bitsI m).length = ml at *
    go_enter Tryd.func66, Tryd.ntmps66
    go_wp2_with fail
    generalize ((w.alloc (.cells #[.slice ga g.length gc] 27)).alloc (.cells #[.int .i64 0] 2)) = W at *
    rw [HFV.out]
    clear HFV
    go_wp2
    go_loopw [8] (fun lv wr => ∃ L : Nat, 2 ≤ L ∧ L ≤ g.length + 2 ∧ lv = .int .i64 L ∧ RowKit.Hid (NoF (EarG g m U) (fromN m) L 0) ∧ wr.cell? ⟨w.heap.size, 0, none⟩ = some (.slice ga g.length gc) ∧ Below w.heap.size w wr ∧ SlI (fun _ => True) wr .i64 (.slice fa (fromN m).length fc) (natsI (fromN m))) (fun lv _ => g.length + 2 - (RowKit.intOf lv).toNat)
    case atStart => exact ⟨2, by omega, by omega, rfl, HN0, cf, hqf, hfv⟩
    case round =>
      clear HN0 cf hqf hfv
      obtain ⟨L, hL2, hLn, rfl, HNO, cg, hq, hfv⟩ := hrel
      obtain ⟨wo, rfl⟩ : ∃ wx : World, wx = wr := ⟨_, rfl⟩
      by_cases hlt : L ≤ g.length
      case neg =>
        have HE := Lib.hid (show ∀ q, ¬ EarG g m U q from fun q hqq => by
          have h1 := (ear_from HG.out HM.out hqq).2.1
          rcases HNO.out q hqq with h2 | ⟨h2, -⟩ <;> omega)
        have hqx := hq.alloc hq.size (.cells #[] 2)
        go_wp2
        go_ret
        exact ⟨_, rfl, .inl HE.out, hqx⟩
      have hd1 : decide ((L : Int) ≤ (g.length : Int)) = true := decide_eq_true (by omega)
      go_wp2
      go_loopw [9] (fun iv wr => ∃ k : Nat, k ≤ (fromN m).length ∧ iv = .int .i64 k ∧ RowKit.Hid (NoF (EarG g m U) (fromN m) L k) ∧ wr.cell? ⟨w.heap.size, 0, none⟩ = some (.slice ga g.length gc) ∧ Below w.heap.size w wr ∧ SlI (fun _ => True) wr .i64 (.slice fa (fromN m).length fc) (natsI (fromN m))) (fun iv _ => (fromN m).length - (RowKit.intOf iv).toNat)
      case atStart => exact ⟨0, Nat.zero_le _, rfl, HNO, cg, hq, hfv⟩
      case round =>
        clear HNO cg hq hfv
        obtain ⟨k, hk, rfl, HNK, cg, hq, hfv⟩ := hrel
        obtain ⟨wi, rfl⟩ : ∃ wx : World, wx = wr := ⟨_, rfl⟩
        by_cases hlk : k < (fromN m).length
        case neg =>
          obtain rfl : k = (fromN m).length := by omega
          have HNX := Lib.hid (show NoF (EarG g m U) (fromN m) (L + 1) 0 from NoF.long HNK.out (fun q hqq => (ear_from HG.out HM.out hqq).2.2))
          go_wp2
          go_roundw
          case rel => exact ⟨L + 1, by omega, by omega, by go_num, HNX, cg, hq, hfv⟩
          case measure => simp [RowKit.intOf]; omega
        have hfv0 := hfv
        obtain ⟨fb, fo, fc2, hfe, hfc⟩ := hfv.at_
        have hfe := hfe (by rw [natsI_len]; omega)
        rw [natsI_len] at hfe
        simp only [Value.slice.injEq] at hfe
        obtain ⟨rfl, -, rfl⟩ := hfe
        have f1 : wi.cell? ⟨fb, fo + k, none⟩ = some (.int .i64 ((fromN m)[k] : Int)) := by
          rw [hfc k (by rw [natsI_len]; exact hlk), natsI_get]
        have hxA : (fromN m)[k] < g.length := HFL.out _ (List.getElem_mem hlk)
        have HF := Lib.hid (fun q => foundS (g := g) (U := U) (L := L) (q := q) HG.out hlk hL2 HNK.out)
        have HNF := Lib.hid (fun h => HNK.out.next hlk (nothingS (g := g) (U := U) (L := L) HG.out hlk h))
        clear hfc HNK
        generalize (fromN m)[k] = x at *
        have hcl := cell_lt cg
        simp only at hcl
        go_wp2
        refine wp_region_held_drew (S := (fun w' => w'.cell? ⟨w.heap.size, 0, none⟩ = some (.slice ga g.length gc) ∧ w'.cell? ⟨fb, fo + k, none⟩ = some (.int .i64 (x : Int)))) (by kernel_rfl) ?_ (fun hHeld => ?_)
        · first | exact ⟨‹_›, ‹_›⟩ | (simp [*, go_sem])
        have hdw : Drawn wi wi.drew := (Drawn.refl _).drew
        generalize wi.drew = wd at hdw hHeld ⊢
        have hqd := hq.trans (hdw.below _)
        obtain ⟨p1, p2⟩ := hHeld
        have hHeld : (fun w' => World.cell? w' ⟨w.heap.size, 0, none⟩ = some (.slice ga g.length gc) ∧ World.cell? w' ⟨fb, fo + k, none⟩ = some (.int .i64 (x : Int))) wd := ⟨p1, p2⟩
        have hfd := hfv0.below (hdw.below wi.heap.size) (Nat.le_refl _)
        refine wpAnyH_take (i := 0) (v := ?v63) (by simp only [List.getElem?_toArray, List.getElem?_cons_zero]; exact rfl) (by kernel_rfl) (by kernel_rfl) (by kernel_rfl) (by intro _ _ _ h; exact h) (Or.inl ⟨by rfl, ?y63⟩) hHeld ?_
        case y63 => (intro w hSw; (try dsimp only at hSw); go_simp; try (with_reducible rfl))
        try simp only [Act.put, List.setIfInBounds_toArray, List.set_cons_zero, List.set_cons_succ]
        refine wpAnyH_take (i := 1) (v := ?v64) (by simp only [List.getElem?_toArray, List.getElem?_cons_succ, List.getElem?_cons_zero]; exact rfl) (by kernel_rfl) (by kernel_rfl) (by kernel_rfl) (by intro _ _ _ h; exact h) (Or.inl ⟨by rfl, ?y64⟩) hHeld ?_
        case y64 => (intro w hSw; (try dsimp only at hSw); go_simp; try (with_reducible rfl))
        try simp only [Act.put, List.setIfInBounds_toArray, List.set_cons_zero, List.set_cons_succ]
        refine wpAnyH_take (i := 2) (v := ?v65) (by simp only [List.getElem?_toArray, List.getElem?_cons_succ, List.getElem?_cons_zero]; exact rfl) (by kernel_rfl) (by kernel_rfl) (by kernel_rfl) (by intro _ _ _ h; exact h) (Or.inl ⟨by rfl, ?y65⟩) hHeld ?_
        case y65 => (intro w hSw; (try dsimp only at hSw); go_simp; try (with_reducible rfl))
        try simp only [Act.put, List.setIfInBounds_toArray, List.set_cons_zero, List.set_cons_succ]
        refine wpAnyH_take (i := 3) (v := ?v66) (by simp only [List.getElem?_toArray, List.getElem?_cons_succ, List.getElem?_cons_zero]; exact rfl) (by kernel_rfl) (by kernel_rfl) (by kernel_rfl) (by intro _ _ _ h; exact h) (Or.inl ⟨by rfl, ?y66⟩) hHeld ?_
        case y66 => (intro w hSw; (try dsimp only at hSw); go_simp; try (with_reducible rfl))
        try simp only [Act.put, List.setIfInBounds_toArray, List.set_cons_zero, List.set_cons_succ]
        refine wpAnyH_take (i := 4) (v := ?v67) (by simp only [List.getElem?_toArray, List.getElem?_cons_succ, List.getElem?_cons_zero]; exact rfl) (by kernel_rfl) (by kernel_rfl) (by kernel_rfl) (by intro _ _ _ h; exact h) (Or.inl ⟨by rfl, ?y67⟩) hHeld ?_
        case y67 => (intro w hSw; (try dsimp only at hSw); go_simp; try (with_reducible rfl))
        try simp only [Act.put, List.setIfInBounds_toArray, List.set_cons_zero, List.set_cons_succ]
        refine wpAnyH_take (i := 6) (v := ?v68) (by simp only [List.getElem?_toArray, List.getElem?_cons_succ, List.getElem?_cons_zero]; exact rfl) (by kernel_rfl) (by kernel_rfl) (by kernel_rfl) (by intro _ _ _ h; exact h) (Or.inl ⟨by rfl, ?y68⟩) hHeld ?_
        case y68 => (intro w hSw; (try dsimp only at hSw); go_simp; try (with_reducible rfl))
        try simp only [Act.put, List.setIfInBounds_toArray, List.set_cons_zero, List.set_cons_succ]
        refine wpAnyH_take (i := 7) (v := ?v69) (by simp only [List.getElem?_toArray, List.getElem?_cons_succ, List.getElem?_cons_zero]; exact rfl) (by kernel_rfl) (by kernel_rfl) (by kernel_rfl) (by intro _ _ _ h; exact h) (Or.inl ⟨by rfl, ?y69⟩) hHeld ?_
        case y69 => (intro w hSw; (try dsimp only at hSw); go_simp; try (with_reducible rfl))
        try simp only [Act.put, List.setIfInBounds_toArray, List.set_cons_zero, List.set_cons_succ]
        refine wpAnyH_take (i := 8) (v := ?v70) (by simp only [List.getElem?_toArray, List.getElem?_cons_succ, List.getElem?_cons_zero]; exact rfl) (by kernel_rfl) (by kernel_rfl) (by kernel_rfl) (by intro _ _ _ h; exact h) (Or.inl ⟨by rfl, ?y70⟩) hHeld ?_
        case y70 => (intro w hSw; (try dsimp only at hSw); go_simp; try (with_reducible rfl))
        try simp only [Act.put, List.setIfInBounds_toArray, List.set_cons_zero, List.set_cons_succ]
        refine wpAnyH_ready (rs := [5]) (by kernel_rfl) (by simp) ?_
        refine AllReadyH.cons (by simp only [List.getElem?_toArray, List.getElem?_cons_succ, List.getElem?_cons_zero]; exact rfl) (fun K hK => ?_) AllReadyH.nil
        go_simp
        have hb2 : Below wd.heap.size wd (wd.alloc (.cells #[.int .i64 (x : Int)] 2)) := (Below.refl _ _).alloc (Nat.le_refl _) _
        have hq2 := hqd.trans (hb2.mono hqd.size)
        have p1 := (hb2.cell (cell_lt p1)).trans p1
        have p2 := (hb2.cell (cell_lt p2)).trans p2
        have hlit : Own (wd.alloc (.cells #[.int .i64 (x : Int)] 2)) w.heap.size 2 1 (.slice (some ⟨wd.heap.size, 0, none⟩) 1 1) 1 ((natsI [x]).map (.int .i64)) := (by have := own_new wd w.heap.size 2 (.int .i64 (x : Int)) hqd.size; simpa [natsI] using this)
        have hf2 := hfd.below hb2 (Nat.le_refl _)
        try dsimp only
        refine hK.out _ _ ?h72 (fun hHeld => ?_)
        case h72 => first | exact ⟨‹_›, ‹_›⟩ | (simp [*, go_sem])
        clear hK K
        try simp only [Act.put, List.setIfInBounds_toArray, List.set_cons_zero, List.set_cons_succ]
        refine wpAnyH_ready (rs := [9]) (by kernel_rfl) (by simp) ?_
        refine AllReadyH.cons (by simp only [List.getElem?_toArray, List.getElem?_cons_succ, List.getElem?_cons_zero]; exact rfl) (fun K hK => ?_) AllReadyH.nil
        go_simp
        have hmo := l19More_any (L := L) (U := U) (m := m) (B := w.heap.size) HG.out HM.out (by omega) (L - 1) [x] (.slice (some ⟨wd.heap.size, 0, none⟩) 1 1) _ (hgv0.below hq2 (Nat.le_refl _)) (hmv.below hq2 (Nat.le_refl _)) (huv.below hq2 (Nat.le_refl _)) (by simp; omega) (by simp) (by simpa using hxA) ((Own.ints hlit (by omega)).weak (fun b hb => (hlit.lt b hb).1)) hq2.size
        with_reducible refine hmo.mono ?_
        rintro e w4 ⟨y, rfl, hy, hb4⟩
        have hq4 := hq2.trans (hb4.mono hq2.size)
        have p1 := (hb4.cell (cell_lt p1)).trans p1
        have p2 := (hb4.cell (cell_lt p2)).trans p2
        have hf4 := hf2.below hb4 (Nat.le_refl _)
        try dsimp only
        refine hK.out _ _ ?h74 (fun hHeld => ?_)
        case h74 => first | exact ⟨‹_›, ‹_›⟩ | (simp [*, go_sem])
        clear hK K
        try simp only [Act.put, List.setIfInBounds_toArray, List.set_cons_zero, List.set_cons_succ]
        refine wpAnyH_take (i := 10) (v := ?v75) (by simp only [List.getElem?_toArray, List.getElem?_cons_succ, List.getElem?_cons_zero]; exact rfl) (by kernel_rfl) (by kernel_rfl) (by kernel_rfl) (by intro _ _ _ h; exact h) (Or.inl ⟨by rfl, ?y75⟩) hHeld ?_
        case y75 => (intro w hSw; (try dsimp only at hSw); go_simp; try (with_reducible rfl))
        try simp only [Act.put, List.setIfInBounds_toArray, List.set_cons_zero, List.set_cons_succ]
        refine wpAnyH_take (i := 11) (v := ?v76) (by simp only [List.getElem?_toArray, List.getElem?_cons_succ, List.getElem?_cons_zero]; exact rfl) (by kernel_rfl) (by kernel_rfl) (by kernel_rfl) (by intro _ _ _ h; exact h) (Or.inl ⟨by rfl, ?y76⟩) hHeld ?_
        case y76 => (intro w hSw; (try dsimp only at hSw); go_simp; try (with_reducible rfl))
        try simp only [Act.put, List.setIfInBounds_toArray, List.set_cons_zero, List.set_cons_succ]
        refine wpAnyH_take (i := 12) (v := ?v77) (by simp only [List.getElem?_toArray, List.getElem?_cons_succ, List.getElem?_cons_zero]; exact rfl) (by kernel_rfl) (by kernel_rfl) (by kernel_rfl) (by intro _ _ _ h; exact h) (Or.inl ⟨by rfl, ?y77⟩) hHeld ?_
        case y77 => (intro w hSw; (try dsimp only at hSw); go_simp; try (with_reducible rfl))
        try simp only [Act.put, List.setIfInBounds_toArray, List.set_cons_zero, List.set_cons_succ]
        refine wpAnyH_take (i := 13) (v := ?v78) (by simp only [List.getElem?_toArray, List.getElem?_cons_succ, List.getElem?_cons_zero]; exact rfl) (by kernel_rfl) (by kernel_rfl) (by kernel_rfl) (by intro _ _ _ h; exact h) (Or.inl ⟨by rfl, ?y78⟩) hHeld ?_
        case y78 => (intro w hSw; (try dsimp only at hSw); go_simp; try (with_reducible rfl))
        try simp only [Act.put, List.setIfInBounds_toArray, List.set_cons_zero, List.set_cons_succ]
        refine wpAnyH_take (i := 14) (v := ?v79) (by simp only [List.getElem?_toArray, List.getElem?_cons_succ, List.getElem?_cons_zero]; exact rfl) (by kernel_rfl) (by kernel_rfl) (by kernel_rfl) (by intro _ _ _ h; exact h) (Or.inl ⟨by rfl, ?y79⟩) hHeld ?_
        case y79 => (intro w hSw; (try dsimp only at hSw); go_simp; try (with_reducible rfl))
        try simp only [Act.put, List.setIfInBounds_toArray, List.set_cons_zero, List.set_cons_succ]
        refine wpAnyH_done (by kernel_rfl) ?_ _
        have HY := Lib.hid hy
        clear hy hmo hlit hHeld p2
        generalize dfsF (candS g m U L) (finS g m U) (L - 1) [x] = o at *
        cases o with
        | some q =>
          have HR := Lib.hid (HF.out q rfl)
          clear HF HNF
          simp only [Option.isSome_some]
          go_wp2
          go_ret
          exact ⟨_, rfl, .inr ⟨q, HR.out, HY.out q rfl⟩, hq4⟩
        | none =>
          have HN2 := Lib.hid (HNF.out rfl)
          clear HF HNF
          simp only [Option.isSome_none]
          go_wp2
          go_roundw
          case rel => exact ⟨k + 1, by omega, by go_num, HN2, p1, hq4, hf4⟩
          case measure => simp [RowKit.intOf]; omega
  have hl0 : (bitsI m).length ≠ 0 := fun e => h0 (hmz.1 e)
  have HFE := Lib.hid (show natsI (fromN m) = bitsI m by unfold fromN; rw [if_neg h0]; simp [bitsI, natsI])
  have HFN := Lib.hid (show (fromN m).length = (bitsI m).length by rw [← natsI_len, HFE.out])
  have he1 : (((bitsI m).length : Int) == 0) = false := by rw [beq_eq_false_iff_ne]; omega
  have he2 : ((bitsI m).length == 0) = false := by rw [beq_eq_false_iff_ne]; omega
  obtain ⟨fa, fc, rfl⟩ := hmv.slice
  have hqf := hb0
  have cf := c0
  have hfv : SlI (fun _ => True) (w.alloc (.cells #[.slice ga g.length gc] 27)) .i64 (.slice fa (fromN m).length fc) (natsI (fromN m)) := by
    rw [HFE.out, HFN.out]; exact (hmv.below hb0 (Nat.le_refl _)).weak (fun _ _ => trivial)
  rw [← HFN.out] at he1 he2 hmv ⊢
  clear hmz hl0 hb0 c0 hbl h0
  go_enter Tryd.func66, Tryd.ntmps66
  go_wp2
  go_loopw [8] (fun lv wr => ∃ L : Nat, 2 ≤ L ∧ L ≤ g.length + 2 ∧ lv = .int .i64 L ∧ RowKit.Hid (NoF (EarG g m U) (fromN m) L 0) ∧ wr.cell? ⟨w.heap.size, 0, none⟩ = some (.slice ga g.length gc) ∧ Below w.heap.size w wr ∧ SlI (fun _ => True) wr .i64 (.slice fa (fromN m).length fc) (natsI (fromN m))) (fun lv _ => g.length + 2 - (RowKit.intOf lv).toNat)
  case atStart => exact ⟨2, by omega, by omega, rfl, HN0, cf, hqf, hfv⟩
  case round =>
    clear HN0 cf hqf hfv
    obtain ⟨L, hL2, hLn, rfl, HNO, cg, hq, hfv⟩ := hrel
    obtain ⟨wo, rfl⟩ : ∃ wx : World, wx = wr := ⟨_, rfl⟩
    by_cases hlt : L ≤ g.length
    case neg =>
      have HE := Lib.hid (show ∀ q, ¬ EarG g m U q from fun q hqq => by
        have h1 := (ear_from HG.out HM.out hqq).2.1
        rcases HNO.out q hqq with h2 | ⟨h2, -⟩ <;> omega)
      have hqx := hq.alloc hq.size (.cells #[] 2)
      go_wp2
      go_ret
      exact ⟨_, rfl, .inl HE.out, hqx⟩
    have hd1 : decide ((L : Int) ≤ (g.length : Int)) = true := decide_eq_true (by omega)
    go_wp2
    go_loopw [9] (fun iv wr => ∃ k : Nat, k ≤ (fromN m).length ∧ iv = .int .i64 k ∧ RowKit.Hid (NoF (EarG g m U) (fromN m) L k) ∧ wr.cell? ⟨w.heap.size, 0, none⟩ = some (.slice ga g.length gc) ∧ Below w.heap.size w wr ∧ SlI (fun _ => True) wr .i64 (.slice fa (fromN m).length fc) (natsI (fromN m))) (fun iv _ => (fromN m).length - (RowKit.intOf iv).toNat)
    case atStart => exact ⟨0, Nat.zero_le _, rfl, HNO, cg, hq, hfv⟩
    case round =>
      clear HNO cg hq hfv
      obtain ⟨k, hk, rfl, HNK, cg, hq, hfv⟩ := hrel
      obtain ⟨wi, rfl⟩ : ∃ wx : World, wx = wr := ⟨_, rfl⟩
      by_cases hlk : k < (fromN m).length
      case neg =>
        obtain rfl : k = (fromN m).length := by omega
        have HNX := Lib.hid (show NoF (EarG g m U) (fromN m) (L + 1) 0 from NoF.long HNK.out (fun q hqq => (ear_from HG.out HM.out hqq).2.2))
        go_wp2
        go_roundw
        case rel => exact ⟨L + 1, by omega, by omega, by go_num, HNX, cg, hq, hfv⟩
        case measure => simp [RowKit.intOf]; omega
      have hfv0 := hfv
      obtain ⟨fb, fo, fc2, hfe, hfc⟩ := hfv.at_
      have hfe := hfe (by rw [natsI_len]; omega)
      rw [natsI_len] at hfe
      simp only [Value.slice.injEq] at hfe
      obtain ⟨rfl, -, rfl⟩ := hfe
      have f1 : wi.cell? ⟨fb, fo + k, none⟩ = some (.int .i64 ((fromN m)[k] : Int)) := by
        rw [hfc k (by rw [natsI_len]; exact hlk), natsI_get]
      have hxA : (fromN m)[k] < g.length := HFL.out _ (List.getElem_mem hlk)
      have HF := Lib.hid (fun q => foundS (g := g) (U := U) (L := L) (q := q) HG.out hlk hL2 HNK.out)
      have HNF := Lib.hid (fun h => HNK.out.next hlk (nothingS (g := g) (U := U) (L := L) HG.out hlk h))
      clear hfc HNK
      generalize (fromN m)[k] = x at *
      have hcl := cell_lt cg
      simp only at hcl
      go_wp2
      refine wp_region_held_drew (S := (fun w' => w'.cell? ⟨w.heap.size, 0, none⟩ = some (.slice ga g.length gc) ∧ w'.cell? ⟨fb, fo + k, none⟩ = some (.int .i64 (x : Int)))) (by kernel_rfl) ?_ (fun hHeld => ?_)
      · first | exact ⟨‹_›, ‹_›⟩ | (simp [*, go_sem])
      have hdw : Drawn wi wi.drew := (Drawn.refl _).drew
      generalize wi.drew = wd at hdw hHeld ⊢
      have hqd := hq.trans (hdw.below _)
      obtain ⟨p1, p2⟩ := hHeld
      have hHeld : (fun w' => World.cell? w' ⟨w.heap.size, 0, none⟩ = some (.slice ga g.length gc) ∧ World.cell? w' ⟨fb, fo + k, none⟩ = some (.int .i64 (x : Int))) wd := ⟨p1, p2⟩
      have hfd := hfv0.below (hdw.below wi.heap.size) (Nat.le_refl _)
      refine wpAnyH_take (i := 0) (v := ?v80) (by simp only [List.getElem?_toArray, List.getElem?_cons_zero]; exact rfl) (by kernel_rfl) (by kernel_rfl) (by kernel_rfl) (by intro _ _ _ h; exact h) (Or.inl ⟨by rfl, ?y80⟩) hHeld ?_
      case y80 => (intro w hSw; (try dsimp only at hSw); go_simp; try (with_reducible rfl))
      try simp only [Act.put, List.setIfInBounds_toArray, List.set_cons_zero, List.set_cons_succ]
      refine wpAnyH_take (i := 1) (v := ?v81) (by simp only [List.getElem?_toArray, List.getElem?_cons_succ, List.getElem?_cons_zero]; exact rfl) (by kernel_rfl) (by kernel_rfl) (by kernel_rfl) (by intro _ _ _ h; exact h) (Or.inl ⟨by rfl, ?y81⟩) hHeld ?_
      case y81 => (intro w hSw; (try dsimp only at hSw); go_simp; try (with_reducible rfl))
      try simp only [Act.put, List.setIfInBounds_toArray, List.set_cons_zero, List.set_cons_succ]
      refine wpAnyH_take (i := 2) (v := ?v82) (by simp only [List.getElem?_toArray, List.getElem?_cons_succ, List.getElem?_cons_zero]; exact rfl) (by kernel_rfl) (by kernel_rfl) (by kernel_rfl) (by intro _ _ _ h; exact h) (Or.inl ⟨by rfl, ?y82⟩) hHeld ?_
      case y82 => (intro w hSw; (try dsimp only at hSw); go_simp; try (with_reducible rfl))
      try simp only [Act.put, List.setIfInBounds_toArray, List.set_cons_zero, List.set_cons_succ]
      refine wpAnyH_take (i := 3) (v := ?v83) (by simp only [List.getElem?_toArray, List.getElem?_cons_succ, List.getElem?_cons_zero]; exact rfl) (by kernel_rfl) (by kernel_rfl) (by kernel_rfl) (by intro _ _ _ h; exact h) (Or.inl ⟨by rfl, ?y83⟩) hHeld ?_
      case y83 => (intro w hSw; (try dsimp only at hSw); go_simp; try (with_reducible rfl))
      try simp only [Act.put, List.setIfInBounds_toArray, List.set_cons_zero, List.set_cons_succ]
      refine wpAnyH_take (i := 4) (v := ?v84) (by simp only [List.getElem?_toArray, List.getElem?_cons_succ, List.getElem?_cons_zero]; exact rfl) (by kernel_rfl) (by kernel_rfl) (by kernel_rfl) (by intro _ _ _ h; exact h) (Or.inl ⟨by rfl, ?y84⟩) hHeld ?_
      case y84 => (intro w hSw; (try dsimp only at hSw); go_simp; try (with_reducible rfl))
      try simp only [Act.put, List.setIfInBounds_toArray, List.set_cons_zero, List.set_cons_succ]
      refine wpAnyH_take (i := 6) (v := ?v85) (by simp only [List.getElem?_toArray, List.getElem?_cons_succ, List.getElem?_cons_zero]; exact rfl) (by kernel_rfl) (by kernel_rfl) (by kernel_rfl) (by intro _ _ _ h; exact h) (Or.inl ⟨by rfl, ?y85⟩) hHeld ?_
      case y85 => (intro w hSw; (try dsimp only at hSw); go_simp; try (with_reducible rfl))
      try simp only [Act.put, List.setIfInBounds_toArray, List.set_cons_zero, List.set_cons_succ]
      refine wpAnyH_take (i := 7) (v := ?v86) (by simp only [List.getElem?_toArray, List.getElem?_cons_succ, List.getElem?_cons_zero]; exact rfl) (by kernel_rfl) (by kernel_rfl) (by kernel_rfl) (by intro _ _ _ h; exact h) (Or.inl ⟨by rfl, ?y86⟩) hHeld ?_
      case y86 => (intro w hSw; (try dsimp only at hSw); go_simp; try (with_reducible rfl))
      try simp only [Act.put, List.setIfInBounds_toArray, List.set_cons_zero, List.set_cons_succ]
      refine wpAnyH_take (i := 8) (v := ?v87) (by simp only [List.getElem?_toArray, List.getElem?_cons_succ, List.getElem?_cons_zero]; exact rfl) (by kernel_rfl) (by kernel_rfl) (by kernel_rfl) (by intro _ _ _ h; exact h) (Or.inl ⟨by rfl, ?y87⟩) hHeld ?_
      case y87 => (intro w hSw; (try dsimp only at hSw); go_simp; try (with_reducible rfl))
      try simp only [Act.put, List.setIfInBounds_toArray, List.set_cons_zero, List.set_cons_succ]
      refine wpAnyH_ready (rs := [5]) (by kernel_rfl) (by simp) ?_
      refine AllReadyH.cons (by simp only [List.getElem?_toArray, List.getElem?_cons_succ, List.getElem?_cons_zero]; exact rfl) (fun K hK => ?_) AllReadyH.nil
      go_simp
      have hb2 : Below wd.heap.size wd (wd.alloc (.cells #[.int .i64 (x : Int)] 2)) := (Below.refl _ _).alloc (Nat.le_refl _) _
      have hq2 := hqd.trans (hb2.mono hqd.size)
      have p1 := (hb2.cell (cell_lt p1)).trans p1
      have p2 := (hb2.cell (cell_lt p2)).trans p2
      have hlit : Own (wd.alloc (.cells #[.int .i64 (x : Int)] 2)) w.heap.size 2 1 (.slice (some ⟨wd.heap.size, 0, none⟩) 1 1) 1 ((natsI [x]).map (.int .i64)) := (by have := own_new wd w.heap.size 2 (.int .i64 (x : Int)) hqd.size; simpa [natsI] using this)
      have hf2 := hfd.below hb2 (Nat.le_refl _)
      try dsimp only
      refine hK.out _ _ ?h89 (fun hHeld => ?_)
      case h89 => first | exact ⟨‹_›, ‹_›⟩ | (simp [*, go_sem])
      clear hK K
      try simp only [Act.put, List.setIfInBounds_toArray, List.set_cons_zero, List.set_cons_succ]
      refine wpAnyH_ready (rs := [9]) (by kernel_rfl) (by simp) ?_
      refine AllReadyH.cons (by simp only [List.getElem?_toArray, List.getElem?_cons_succ, List.getElem?_cons_zero]; exact rfl) (fun K hK => ?_) AllReadyH.nil
      go_simp
      have hmo := l19More_any (L := L) (U := U) (m := m) (B := w.heap.size) HG.out HM.out (by omega) (L - 1) [x] (.slice (some ⟨wd.heap.size, 0, none⟩) 1 1) _ (hgv0.below hq2 (Nat.le_refl _)) (hmv.below hq2 (Nat.le_refl _)) (huv.below hq2 (Nat.le_refl _)) (by simp; omega) (by simp) (by simpa using hxA) ((Own.ints hlit (by omega)).weak (fun b hb => (hlit.lt b hb).1)) hq2.size
      with_reducible refine hmo.mono ?_
      rintro e w4 ⟨y, rfl, hy, hb4⟩
      have hq4 := hq2.trans (hb4.mono hq2.size)
      have p1 := (hb4.cell (cell_lt p1)).trans p1
      have p2 := (hb4.cell (cell_lt p2)).trans p2
      have hf4 := hf2.below hb4 (Nat.le_refl _)
      try dsimp only
      refine hK.out _ _ ?h91 (fun hHeld => ?_)
      case h91 => first | exact ⟨‹_›, ‹_›⟩ | (simp [*, go_sem])
      clear hK K
      try simp only [Act.put, List.setIfInBounds_toArray, List.set_cons_zero, List.set_cons_succ]
      refine wpAnyH_take (i := 10) (v := ?v92) (by simp only [List.getElem?_toArray, List.getElem?_cons_succ, List.getElem?_cons_zero]; exact rfl) (by kernel_rfl) (by kernel_rfl) (by kernel_rfl) (by intro _ _ _ h; exact h) (Or.inl ⟨by rfl, ?y92⟩) hHeld ?_
      case y92 => (intro w hSw; (try dsimp only at hSw); go_simp; try (with_reducible rfl))
      try simp only [Act.put, List.setIfInBounds_toArray, List.set_cons_zero, List.set_cons_succ]
      refine wpAnyH_take (i := 11) (v := ?v93) (by simp only [List.getElem?_toArray, List.getElem?_cons_succ, List.getElem?_cons_zero]; exact rfl) (by kernel_rfl) (by kernel_rfl) (by kernel_rfl) (by intro _ _ _ h; exact h) (Or.inl ⟨by rfl, ?y93⟩) hHeld ?_
      case y93 => (intro w hSw; (try dsimp only at hSw); go_simp; try (with_reducible rfl))
      try simp only [Act.put, List.setIfInBounds_toArray, List.set_cons_zero, List.set_cons_succ]
      refine wpAnyH_take (i := 12) (v := ?v94) (by simp only [List.getElem?_toArray, List.getElem?_cons_succ, List.getElem?_cons_zero]; exact rfl) (by kernel_rfl) (by kernel_rfl) (by kernel_rfl) (by intro _ _ _ h; exact h) (Or.inl ⟨by rfl, ?y94⟩) hHeld ?_
      case y94 => (intro w hSw; (try dsimp only at hSw); go_simp; try (with_reducible rfl))
      try simp only [Act.put, List.setIfInBounds_toArray, List.set_cons_zero, List.set_cons_succ]
      refine wpAnyH_take (i := 13) (v := ?v95) (by simp only [List.getElem?_toArray, List.getElem?_cons_succ, List.getElem?_cons_zero]; exact rfl) (by kernel_rfl) (by kernel_rfl) (by kernel_rfl) (by intro _ _ _ h; exact h) (Or.inl ⟨by rfl, ?y95⟩) hHeld ?_
      case y95 => (intro w hSw; (try dsimp only at hSw); go_simp; try (with_reducible rfl))
      try simp only [Act.put, List.setIfInBounds_toArray, List.set_cons_zero, List.set_cons_succ]
      refine wpAnyH_take (i := 14) (v := ?v96) (by simp only [List.getElem?_toArray, List.getElem?_cons_succ, List.getElem?_cons_zero]; exact rfl) (by kernel_rfl) (by kernel_rfl) (by kernel_rfl) (by intro _ _ _ h; exact h) (Or.inl ⟨by rfl, ?y96⟩) hHeld ?_
      case y96 => (intro w hSw; (try dsimp only at hSw); go_simp; try (with_reducible rfl))
      try simp only [Act.put, List.setIfInBounds_toArray, List.set_cons_zero, List.set_cons_succ]
      refine wpAnyH_done (by kernel_rfl) ?_ _
      have HY := Lib.hid hy
      clear hy hmo hlit hHeld p2
      generalize dfsF (candS g m U L) (finS g m U) (L - 1) [x] = o at *
      cases o with
      | some q =>
        have HR := Lib.hid (HF.out q rfl)
        clear HF HNF
        simp only [Option.isSome_some]
        go_wp2
        go_ret
        exact ⟨_, rfl, .inr ⟨q, HR.out, HY.out q rfl⟩, hq4⟩
      | none =>
        have HN2 := Lib.hid (HNF.out rfl)
        clear HF HNF
        simp only [Option.isSome_none]
        go_wp2
        go_roundw
        case rel => exact ⟨k + 1, by omega, by go_num, HN2, p1, hq4, hf4⟩
        case measure => simp [RowKit.intOf]; omega
end Go.Proofs.YtgkkgagnoeedaaaDoor
