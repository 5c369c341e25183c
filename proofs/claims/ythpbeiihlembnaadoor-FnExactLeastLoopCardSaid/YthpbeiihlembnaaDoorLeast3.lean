/- LeastLoop of both, and the law. -/
import Derived.Test.YthpbeiihlembnaaDoorLeast1
import Derived.Test.YthpbeiihlembnaaDoorCut
namespace Go.Proofs.YthpbeiihlembnaaDoor
open Go.RowKit
theorem find_first {p : Nat → Bool} {l : List Nat} {j : Nat} (hj : j < l.length) (h : p l[j] = true) (hb : ∀ i (hi : i < j), p (l[i]'(by omega)) = false) : l.find? p = some l[j] :=
  List.find?_eq_some_iff_getElem.2 ⟨h, j, hj, rfl, fun i hi => by rw [hb i hi]; rfl⟩
theorem row_bitsN {g : List (List Int)} (hg : GOk g) {x : Nat} (hx : x < g.length) : g[x] = natsI (bitsN ((netsL g).getD x 0)) := by
  rw [netsL_get hx, ← bits_natsI3, bitsI_maskL (rise_sorted (hg.rise x hx)) (hg.ge32 hx)]
set_option maxRecDepth 100000 in
set_option maxHeartbeats 4000000 in
theorem l3Down_any {S : Nat → Prop} {v : Value} {g : List (List Int)} {wi s ob oc K u : Nat} {D : Nat → Int} {w : World} (hg : GOk g) (hv : SlR S w v g) (hI : DistI (netsL g) wi s g.length) (hD : IsDist (netsL g) wi s g.length D) (hrow : Row w ob g.length (tabV D)) (hu : u < g.length) (hK : D u = (K : Int)) (hK16 : K ≤ 100) :
    Calls Tryd.prog 84 #[.agg #[v], .slice (some ⟨ob, 0, none⟩) g.length oc, .int .i64 (u : Int)] w fun e w' => ∃ r, e = .returned r ∧ Own w' w.heap.size 2 1 r (K + 1) ((natsI (dnN (netsL g) D K u ++ [s])).map (.int .i64)) ∧ Below w.heap.size w w' := by
  obtain ⟨a, b, off, cap, fr, rfl, hl, ha, hc0⟩ := hv
  have h16 := hg.hi
  have hq0 : Below w.heap.size w ((w.alloc (.cells #[.slice a g.length cap] 29)).alloc (.cells #[.int .i64 (u : Int)] 2)) := ((Below.refl _ _).alloc (Nat.le_refl _) _).alloc (by simp) _
  have ho0 : Own ((w.alloc (.cells #[.slice a g.length cap] 29)).alloc (.cells #[.int .i64 (u : Int)] 2)) (w.heap.size + 1) 2 1 (.slice (some ⟨w.heap.size + 1, 0, none⟩) 1 1) 1 ((natsI [u]).map (.int .i64)) := by
    have := World.ownsRow_lit (base := w.heap.size + 1) (e := 2) (size := 1) (w.alloc (.cells #[.slice a g.length cap] 29)) #[.int .i64 (u : Int)] 1 (by simp) (by unfold maxLen; omega) rfl
    simpa [Own, natsI] using this
  have hobl : 0 < g.length → ob < w.heap.size := fun h => hrow.lt h
  have hsym := (nets_NetI hg).sym
  rw [netsL_len] at hsym
  have hH : ∀ u, (netsL g).getD u 0 < 4294967296 := fun u => by
    by_cases e : u < (netsL g).length
    · rw [show (netsL g).getD u 0 = (netsL g)[u] by simp [e]]; exact netsL_lt hg _ (List.getElem_mem e)
    · rw [show (netsL g).getD u 0 = 0 by simp [show (netsL g).length ≤ u by omega]]; omega
  have HG := Lib.hid hg
  have HI := Lib.hid hI
  have HD := Lib.hid hD
  have HS := Lib.hid hsym
  have HH := Lib.hid hH
  have HK := Lib.hid hK
  clear hg hI hD hsym hH hK
  go_enter Tryd.func84, Tryd.ntmps84
  go_wp2
  go_loopw [7, 2] (fun o uv wr => ∃ (k x : Nat) (pre : List Nat), k + pre.length = K ∧ x < g.length ∧ uv = .int .i64 x ∧ RowKit.Hid (D x = (k : Int)) ∧ RowKit.Hid (dnN (netsL g) D K u ++ [s] = pre ++ (dnN (netsL g) D k x ++ [s])) ∧ Own wr (w.heap.size + 1) 2 1 o (pre.length + 1) ((natsI (pre ++ [x])).map (.int .i64)) ∧ Below w.heap.size w wr ∧ wr.cell? ⟨w.heap.size, 0, none⟩ = some (.slice a g.length cap)) (fun o _ _ => K + 2 - lenV o)
  case atStart => exact ⟨K, u, [], by simp, hu, rfl, HK, Lib.hid rfl, by simpa using ho0, hq0, by simp [go_sem]⟩
  case round =>
    clear ho0 hq0 HK
    obtain ⟨k, x, pre, hkp, hx, rfl, HX, HW, ho, hq, hbx⟩ := hrel
    obtain ⟨wo, rfl⟩ : ∃ wx : World, wx = wr := ⟨_, rfl⟩
    have hr1 := hrow.below hq (Nat.le_refl _)
    have d0 := (hr1 x hx).1
    unfold tabV at d0
    rw [HX.out] at d0
    have hB := hq.size
    have hcl := cell_lt hbx
    simp only at hcl
    obtain ⟨oa, ocp, rfl⟩ := ho.isSlice
    by_cases hk0 : k = 0
    · subst hk0
      have hxs := dist_zero HD.out hx (by simpa using HX.out)
      have HW2 := Lib.hid (show dnN (netsL g) D K u ++ [s] = pre ++ [x] by rw [HW.out, hxs]; rfl)
      have hK2 : pre.length = K := by omega
      clear hxs
      go_wp2
      go_ret
      rw [HW2.out]
      refine ⟨_, rfl, ?_, hq⟩
      have := ho.weak (B' := w.heap.size) (by omega)
      rw [hK2] at this
      simpa [hK2] using this
    · obtain ⟨k', rfl⟩ : ∃ k', k = k' + 1 := ⟨k - 1, by omega⟩
      have hprev := dist_prev HI.out HD.out HS.out hx HX.out
      have hstep := step_spec (k := k') (HH.out x) (by obtain ⟨y, -, h1, h2⟩ := hprev; exact ⟨y, h1, h2⟩)
      obtain ⟨hcr0, hrow0⟩ := hc0 x hx
      obtain ⟨rfl, -⟩ := ha (by omega)
      have hcr := (hq.cell (p := ⟨b, off + x, none⟩) (cell_lt hcr0)).trans hcr0
      have hrw := hrow0.below hq (Nat.le_refl _)
      have hbe := row_bitsN HG.out hx
      rw [hbe] at hrw
      have hmem : ∀ y ∈ bitsN ((netsL g).getD x 0), y < g.length := fun y hy => by
        have h1 : (y : Int) ∈ g[x] := by rw [hbe]; exact List.mem_map.2 ⟨y, hy, rfl⟩
        have := HG.out.ge hx _ h1
        omega
      have hin : stepN (netsL g) D k' x ∈ bitsN ((netsL g).getD x 0) := (mem_bitsN (HH.out x)).2 hstep.1
      have hfi : stepN (netsL g) D k' x = ((bitsN ((netsL g).getD x 0)).find? fun x => decide (D x = (k' : Int))).getD x := rfl
      have HFI := Lib.hid hfi
      have HIN := Lib.hid hin
      have HMEM := Lib.hid hmem
      have HSTEP := Lib.hid hstep
      have HDN := Lib.hid (show dnN (netsL g) D (k' + 1) x = x :: dnN (netsL g) D k' (stepN (netsL g) D k' x) from rfl)
      obtain ⟨ra, rb, ro, rc, hre, hrl, hra, hrc⟩ := hrw
      rw [hre] at hcr
      rw [natsI_len] at hcr hrl hra
      have hpos : decide ((0 : Int) < (k' : Int) + 1) = true := decide_eq_true (by omega)
      have d0' : wo.cell? ⟨ob, x, none⟩ = some (.int .i64 ((k' : Int) + 1)) := by rw [d0]; rfl
      have hyl : (bitsN ((netsL g).getD x 0)).length ≤ 32 := by
        have := bitsI_len ((netsL g).getD x 0)
        simpa [bitsI] using this
      clear hcr0 hrow0 hre hprev hstep hbe hfi hin hmem hk0 d0
      generalize bitsN ((netsL g).getD x 0) = Y at *
      have hq0 : Drawn wo wo := Drawn.refl _
      have hwk : IntKind.i64.wrap ((k' : Int) + 1 - 1) = (k' : Int) := by rw [show (k' : Int) + 1 - 1 = (k' : Int) by omega]; exact IntWalk.i64_in _ (by omega)
      have hwk2 : IntKind.i64.wrap (k' : Int) = (k' : Int) := IntWalk.i64_in _ (by omega)
      go_wp2
      go_loopw [9, 2] (fun jv uv wr => ∃ j : Nat, j ≤ Y.length ∧ jv = .int .i64 j ∧ uv = .int .i64 x ∧ Drawn wo wr ∧ RowKit.Hid (∀ i (h : i < Y.length), i < j → decide (D Y[i] = (k' : Int)) = false)) (fun jv _ _ => Y.length - (RowKit.intOf jv).toNat)
      case atStart => exact ⟨0, Nat.zero_le _, rfl, rfl, hq0, Lib.hid fun i _ h => by omega⟩
      case round =>
        clear hq0
        obtain ⟨j, hj, rfl, rfl, hd, HNO⟩ := hrel
        by_cases hlt : j < Y.length
        case neg =>
          exfalso
          obtain ⟨i, hi, he⟩ := List.getElem_of_mem HIN.out
          have := HNO.out i hi (by omega)
          rw [he] at this
          simp [HSTEP.out.2.1] at this
        have e0 := (hd.cell _).trans d0'
        have e1 : wr.cell? ⟨rb, ro + j, none⟩ = some (.int .i64 (Y[j] : Int)) := by
          rw [hd.cell, hrc j (by rw [natsI_len]; exact hlt), natsI_get]
        have hyn := HMEM.out _ (List.getElem_mem hlt)
        have e2 : wr.cell? ⟨ob, Y[j], none⟩ = some (.int .i64 (D Y[j])) := by
          rw [hd.cell, (hr1 _ hyn).1]; rfl
        obtain ⟨rfl, -⟩ := hra (by omega)
        have HJ := Lib.hid (fun (h : D Y[j] = (k' : Int)) => show stepN (netsL g) D k' x = Y[j] by
          rw [HFI.out, find_first hlt (by simpa using h) (fun i hi => HNO.out i (by omega) hi)]; rfl)
        have HN2 := Lib.hid (fun (h : ¬ D Y[j] = (k' : Int)) => show ∀ i (h : i < Y.length), i < j + 1 → decide (D Y[i] = (k' : Int)) = false from fun i hi hij => by
          by_cases e : i = j
          · subst e; simpa using h
          · exact HNO.out i hi (by omega))
        generalize Y[j] = y at *
        generalize hdy : D y = dy at *
        have HDY := Lib.hid hdy
        clear hdy d0'
        by_cases he : dy = (k' : Int)
        · have hY := HJ.out he
          have hb1 : ((dy : Int) == (k' : Int)) = true := by rw [he]; simp
          subst he
          have HY := Lib.hid hY
          clear hY HJ HN2
          go_wp2
          go_quiet (fail)
          have hd2 : Drawn wo (wr.drewN nq) := hd.drewN _
          have hd3 : Drawn wr (wr.drewN nq) := (Drawn.refl _).drewN _
          generalize wr.drewN nq = wn at hd2 hd3 ⊢
          replace e1 := (hd3.cell _).trans e1
          have hown := ho.drawn hd2
          have hqn := hq.trans (hd2.below _)
          have hbn := (hd2.cell _).trans hbx
          clear e0 e2 hd hd3 hb1
          go_wp2_with (at_builtin; refine hold_in ?_)
          unfold HoldP
          refine wpList_append1 elI64 rfl _ _ rfl hown rfl rfl rfl (by omega) (by have := hqn.size; have := cell_lt hbn; simp at this; omega) ?_
          intro o5 w5 hown5 hkept hmv
          have hq5 := hkept.below hqn hqn.size (fun c h => by have := (hown.lt c h).1; omega)
          have hb5 := (World.cell?_of_block (a := ⟨w.heap.size, 0, none⟩) (hkept.2.2.2.2 w.heap.size (cell_lt hbn) (fun e => by have := (hown.lt w.heap.size e.symm).1; omega))).trans hbn
          have hlen2 : (pre ++ [x]).length = pre.length + 1 := by simp
          have HL2 := Lib.hid hlen2
          have hown6 : Own w5 (w.heap.size + 1) 2 1 o5 ((pre ++ [x]).length + 1) ((natsI (pre ++ [x] ++ [y])).map (.int .i64)) := by rw [HL2.out]; simpa [natsI] using hown5
          have HW2 := Lib.hid (show dnN (netsL g) D K u ++ [s] = (pre ++ [x]) ++ (dnN (netsL g) D k' y ++ [s]) by rw [HW.out, HDN.out, HY.out]; simp)
          obtain ⟨oa5, oc5, rfl⟩ := hown5.isSlice
          clear hown5 hkept hown hmv hqn hbn hlen2
          go_wp2_with fail
          exact ⟨⟨k', y, pre ++ [x], by rw [HL2.out]; omega, hyn, rfl, HDY, HW2, hown6, hq5, hb5⟩, by simp only [lenV]; omega⟩
        · have hb1 : ((dy : Int) == (k' : Int)) = false := by rw [beq_eq_false_iff_ne]; exact he
          have HN3 := Lib.hid (HN2.out he)
          clear HJ HN2 he
          go_wp2
          go_quiet (fail)
          have hd2 : Drawn wo (wr.drewN nq) := hd.drewN _
          generalize wr.drewN nq = wn at hd2 ⊢
          go_wp2
          go_roundw
          case rel => exact ⟨j + 1, by omega, by go_num, rfl, hd2, HN3⟩
          case measure => simp [RowKit.intOf]; omega
theorem cut_bit {g : List (List Int)} (hg : GOk g) {s u x y : Nat} (hs : s < g.length) (hu : u < g.length) : ((netsL (cutG g s u)).getD x 0).testBit y = (((netsL g).getD x 0).testBit y && !(decide ((x, y) = (s, u)) || decide ((x, y) = (u, s)))) := by
  rw [netsL_cutG hg]
  exact cutN_bit (netsL_lt hg) (by rw [netsL_len]; exact hs) (by rw [netsL_len]; exact hu) (by rw [netsL_len]; exact hg.hi)
theorem cut_sub {g : List (List Int)} (hg : GOk g) {s u x y : Nat} (hs : s < g.length) (hu : u < g.length) (h : ((netsL (cutG g s u)).getD x 0).testBit y = true) : ((netsL g).getD x 0).testBit y = true := by
  rw [cut_bit hg hs hu, Bool.and_eq_true] at h
  exact h.1
theorem cut_of {g : List (List Int)} (hg : GOk g) {s u x y : Nat} (hs : s < g.length) (hu : u < g.length) (h : ((netsL g).getD x 0).testBit y = true) (h1 : ¬ (x = s ∧ y = u)) (h2 : ¬ (x = u ∧ y = s)) : ((netsL (cutG g s u)).getD x 0).testBit y = true := by
  rw [cut_bit hg hs hu, h]
  simp [Prod.mk.injEq, h1, h2]
theorem nets_irr {g : List (List Int)} (hg : GOk g) {x : Nat} (hx : x < g.length) : ((netsL g).getD x 0).testBit x = false := by
  have h := adj_bit hg hx hx false
  simp only [adjN, Bool.false_eq_true, if_false] at h
  rw [h]; simp
structure CutI (g : List (List Int)) (s u : Nat) (D : Nat → Int) : Prop where
  gg : GOk g
  ss : s < g.length
  uu : u < g.length
  e : ((netsL g).getD s 0).testBit u = true
  cg : GOk (cutG g s u)
  d : IsDist (netsL (cutG g s u)) (firstN g.length) s g.length D
theorem CutI.distI {g : List (List Int)} {s u : Nat} {D : Nat → Int} (h : CutI g s u D) : DistI (netsL (cutG g s u)) (firstN g.length) s g.length := by
  have := (nets_NetI h.cg).dist (v := s) (by rw [netsL_len, cutG_len]; exact h.ss)
  rwa [netsL_len, cutG_len] at this
theorem CutI.sym {g : List (List Int)} {s u : Nat} {D : Nat → Int} (h : CutI g s u D) : ∀ x y, x < g.length → y < g.length → ((netsL (cutG g s u)).getD x 0).testBit y = true → ((netsL (cutG g s u)).getD y 0).testBit x = true := by
  have := (nets_NetI h.cg).sym
  rwa [netsL_len, cutG_len] at this
theorem CutI.symg {g : List (List Int)} {s u : Nat} {D : Nat → Int} (h : CutI g s u D) : ∀ x y, x < g.length → y < g.length → ((netsL g).getD x 0).testBit y = true → ((netsL g).getD y 0).testBit x = true := by
  have := (nets_NetI h.gg).sym
  rwa [netsL_len] at this
theorem CutI.lt {g : List (List Int)} {s u : Nat} {D : Nat → Int} (h : CutI g s u D) : ∀ x, (netsL (cutG g s u)).getD x 0 < 4294967296 := fun x => by
  by_cases e : x < (netsL (cutG g s u)).length
  · rw [show (netsL (cutG g s u)).getD x 0 = (netsL (cutG g s u))[x] by simp [e]]; exact netsL_lt h.cg _ (List.getElem_mem e)
  · rw [show (netsL (cutG g s u)).getD x 0 = 0 by simp [show (netsL (cutG g s u)).length ≤ x by omega]]; omega
theorem CutI.ne {g : List (List Int)} {s u : Nat} {D : Nat → Int} (h : CutI g s u D) : s ≠ u := fun e => by
  have := h.e
  rw [← e, nets_irr h.gg h.ss] at this; cases this
theorem cut_far {g : List (List Int)} {s u : Nat} {D : Nat → Int} (h : CutI g s u D) {q : List Nat} (hq : LoopN (netsL g) g.length q) (h0 : q.getD 0 0 = s) (h1 : q.getD 1 0 = u) :
    (∀ i, 0 < i → i + 1 < q.length → ((netsL (cutG g s u)).getD (q.getD i 0) 0).testBit (q.getD (i + 1) 0) = true) ∧ ∀ i, 0 < i → i < q.length → 0 ≤ D (q.getD i 0) ∧ D (q.getD i 0) ≤ (q.length : Int) - i := by
  have h3 := hq.three
  have hlt : ∀ i, i < q.length → q.getD i 0 < g.length := fun i hi => hq.path.lt _ (getD_mem hi)
  have hns : ∀ i, 0 < i → i < q.length → q.getD i 0 ≠ s := fun i hi hl e => by
    have := nodup_getD hq.path.nd hl (show 0 < q.length by omega) (by rw [e, h0])
    omega
  have hc : ∀ i, 0 < i → i + 1 < q.length → ((netsL (cutG g s u)).getD (q.getD i 0) 0).testBit (q.getD (i + 1) 0) = true := fun i hi hl =>
    cut_of h.gg h.ss h.uu (hq.path.ch i hl) (fun e => hns i hi (by omega) e.1) (fun e => hns (i + 1) (by omega) hl e.2)
  refine ⟨hc, ring_far h.distI h.d (fun x hx => first_bit hx) hlt ?_ (fun i hi hl => h.sym _ _ (hlt _ (by omega)) (hlt _ hl) (hc i hi hl))⟩
  have hcl := hq.cl
  unfold finN at hcl
  rw [h0] at hcl
  have hl := hlt (q.length - 1) (by omega)
  have hcl2 := h.symg _ _ hl h.ss hcl
  refine cut_of h.gg h.ss h.uu hcl2 (fun e => ?_) (fun e => hns (q.length - 1) (by omega) (by omega) e.2)
  have := nodup_getD hq.path.nd (show q.length - 1 < q.length by omega) (show 1 < q.length by omega) (by rw [h1]; exact e.2)
  omega
theorem cut_none {g : List (List Int)} {s u : Nat} {D : Nat → Int} (h : CutI g s u D) (hd : D u < 0) : ∀ q, LoopN (netsL g) g.length q → q.getD 0 0 = s → q.getD 1 0 = u → False := fun q hq h0 h1 => by
  have := (cut_far h hq h0 h1).2 1 (by omega) (by have := hq.three; omega)
  rw [h1] at this; omega
theorem cut_some {g : List (List Int)} {s u K : Nat} {D : Nat → Int} (h : CutI g s u D) (hd : D u = (K : Int)) : LoopN (netsL g) g.length (s :: dnN (netsL (cutG g s u)) D K u) ∧ ∀ q, LoopN (netsL g) g.length q → q.getD 0 0 = s → q.getD 1 0 = u → leN (s :: dnN (netsL (cutG g s u)) D K u) q := by
  have hK0 : K ≠ 0 := fun e => by
    subst e
    have := dist_zero h.d h.uu (by simpa using hd)
    exact h.ne this.symm
  have hK1 : K ≠ 1 := fun e => by
    subst e
    obtain ⟨x, hx, hb, hx0⟩ := dist_prev (k := 0) h.distI h.d h.sym h.uu (by simpa using hd)
    have := dist_zero h.d hx (by simpa using hx0)
    subst this
    rw [cut_bit h.gg h.ss h.uu] at hb
    simp at hb
  obtain ⟨k, rfl⟩ : ∃ k, K = k + 1 := ⟨K - 1, by omega⟩
  have hdn := dn_path h.distI h.d h.lt h.sym k u h.uu hd
  have hds := dist_start h.distI h.d
  generalize hp : dnN (netsL (cutG g s u)) D (k + 1) u = p at *
  have hps : s ∉ p := fun hm => by
    obtain ⟨i, hi, hi2⟩ := List.getElem_of_mem hm
    have hil : i < k + 1 := by rw [← hdn.len]; exact hi
    have := hdn.far i hil
    rw [show p.getD i 0 = s by rw [← hi2]; simp [hi], hds] at this
    omega
  have hpp : PathN (netsL g) g.length p := ⟨hdn.path.ne, hdn.path.lt, hdn.path.nd, fun i hi => cut_sub h.gg h.ss h.uu (hdn.path.ch i hi)⟩
  refine ⟨⟨hpp.cons h.ss hps (by rw [hdn.head]; exact h.e), by simp [hdn.len]; omega, ?_⟩, fun q hq h0 h1 => ?_⟩
  · unfold finN
    rw [lastN_cons (by rw [hdn.len]; omega)]
    exact cut_sub h.gg h.ss h.uu hdn.last
  · obtain ⟨hch, hfar⟩ := cut_far h hq h0 h1
    have h3 := hq.three
    have hf1 := hfar 1 (by omega) (by omega)
    rw [h1, hd] at hf1
    by_cases e : k + 1 + 1 = q.length
    · refine .inr ⟨by simp [hdn.len]; exact e, ?_⟩
      match q, h0, h1, e, hch, hfar, hq with
      | [], _, _, e, _, _, _ => simp at e
      | a :: t, h0, h1, e, hch, hfar, hq =>
        have ha : a = s := by simpa using h0
        subst ha
        rw [ltN, if_pos rfl, ← hp]
        refine dn_least h.distI h.d h.lt (fun x hx => first_bit hx) h.sym (k + 1) u t h.uu hd (by simp at e; omega) (fun _ => h1) (fun i hi => ?_) (fun i hi => ?_) (fun i hi => ?_)
        · have := hq.path.lt _ (getD_mem (p := a :: t) (i := i + 1) (by omega))
          exact this
        · exact hch (i + 1) (by omega) (by omega)
        · have h9 : 0 ≤ D (t.getD i 0) ∧ D (t.getD i 0) ≤ ((a :: t).length : Int) - ((i + 1 : Nat) : Int) := hfar (i + 1) (by omega) (by omega)
          exact ⟨h9.1, by have := h9.2; omega⟩
    · exact .inl (by simp [hdn.len]; omega)
/-- The best so far, of the loops whose first two are among some. -/
def BestL (g : List (List Int)) (V : Nat → Nat → Prop) (best : List Nat) : Prop := (best = [] ∨ LoopN (netsL g) g.length best) ∧ ∀ q, LoopN (netsL g) g.length q → V (q.getD 0 0) (q.getD 1 0) → best ≠ [] ∧ leN best q
theorem BestL.end_ {g : List (List Int)} {V : Nat → Nat → Prop} {best : List Nat} (h : BestL g V best) (hV : ∀ q, LoopN (netsL g) g.length q → V (q.getD 0 0) (q.getD 1 0)) : best = pickG (LoopN (netsL g) g.length) := by
  rcases h.1 with h1 | h1
  · rw [h1, pick_none]
    intro q hq
    exact (h.2 q hq (hV q hq)).1 h1
  · rw [pick_some ⟨h1, fun q hq => (h.2 q hq (hV q hq)).2⟩]
theorem BestL.skip {g : List (List Int)} {V V' : Nat → Nat → Prop} {best : List Nat} (h : BestL g V best) (hV : ∀ q, LoopN (netsL g) g.length q → V' (q.getD 0 0) (q.getD 1 0) → V (q.getD 0 0) (q.getD 1 0)) : BestL g V' best := ⟨h.1, fun q hq hv => h.2 q hq (hV q hq hv)⟩
theorem BestL.take {g : List (List Int)} {V V' : Nat → Nat → Prop} {best l : List Nat} (h : BestL g V best) (hl : LoopN (netsL g) g.length l) (hV : ∀ q, LoopN (netsL g) g.length q → V' (q.getD 0 0) (q.getD 1 0) → V (q.getD 0 0) (q.getD 1 0) ∨ leN l q) :
    BestL g V' (if best = [] ∨ lessN l best = true then l else best) := by
  have hl0 : l ≠ [] := fun e => by have := hl.three; rw [e] at this; simp at this
  by_cases hb : best = [] ∨ lessN l best = true
  · rw [if_pos hb]
    refine ⟨.inr hl, fun q hq hv => ⟨hl0, ?_⟩⟩
    rcases hV q hq hv with h1 | h1
    · have h2 := h.2 q hq h1
      rcases hb with hb | hb
      · exact absurd hb h2.1
      · exact leN_trans (less_yes hb) h2.2
    · exact h1
  · rw [if_neg hb]
    have h1 : best ≠ [] := fun e => hb (.inl e)
    have h2 : lessN l best = false := by
      cases hx : lessN l best
      · rfl
      · exact absurd (.inr hx) hb
    refine ⟨h.1, fun q hq hv => ⟨h1, ?_⟩⟩
    rcases hV q hq hv with h3 | h3
    · exact (h.2 q hq h3).2
    · exact leN_trans (less_no h2) h3
theorem SlI.emptyQ (S : Nat → Prop) (w : World) (k : IntKind) (a : Option Addr) : SlI S w k (.slice a 0 0) [] := ⟨a, 0, 0, 0, rfl, by simp, fun h => by simp at h, fun i hi => by simp at hi⟩
theorem range_bits2 {n : Nat} (hn : n ≤ 16) : rangeI n = bitsI (firstN n) := sorted_ext (rangeI_sorted _) (bitsI_sorted _) fun x => by rw [mem_bits_firstN hn, mem_rangeI]
set_option maxRecDepth 100000 in
set_option maxHeartbeats 8000000 in
theorem specLeastLoop_any {S : Nat → Prop} {v : Value} {g : List (List Int)} {w : World} (hv : SlR S w v g) :
    Calls Tryd.prog 24 #[.agg #[v]] w fun e w' => ∃ u, e = .returned u ∧ SlI (fun b => b < w'.heap.size) w' .i64 u (natsI (leastF g)) ∧ Below w.heap.size w w' := by
  have hv0 := hv
  obtain ⟨a, b, off, cap, f, rfl, hl, ha, hc0⟩ := hv
  have hb0 : Below w.heap.size w ((w.alloc (.cells #[.slice a g.length cap] 29)).alloc (.cells #[] 2)) := ((Below.refl _ _).alloc (Nat.le_refl _) _).alloc (by simp) _
  have hgo := specGraphOk_any _ _ _ (hv0.below hb0 (Nat.le_refl _))
  by_cases hgb : gokB g = true
  case neg =>
    have HE := Lib.hid (show leastF g = [] by rw [leastF, if_neg hgb])
    rw [Bool.not_eq_true] at hgb
    rw [hgb] at hgo
    clear hgb
    rw [HE.out]
    go_enter Tryd.func24, Tryd.ntmps24
    go_wp2_with fail
    refine hgo.mono ?_
    rintro e w1 ⟨rfl, hb1⟩
    go_wp2
    go_ret
    exact ⟨_, rfl, SlI.emptyQ _ _ _ _, hb0.trans (hb1.mono hb0.size)⟩
  have hg := gokB_iff.1 hgb
  have h16 := hg.hi
  have HE := Lib.hid (show leastF g = pickG (LoopN (netsL g) g.length) by rw [leastF, if_pos hgb])
  rw [hgb] at hgo
  have HG := Lib.hid hg
  clear hgb
  rw [HE.out]
  have hsize := fun (W : World) (hb : Below w.heap.size w W) => l1Size_any (hv0.below hb (Nat.le_refl _))
  have H0 := Lib.hid (show BestL g (fun x _ => x < 0) [] from ⟨.inl rfl, fun q _ h => absurd h (Nat.not_lt_zero _)⟩)
  clear hg
  go_enter Tryd.func24, Tryd.ntmps24
  go_wp2_with fail
  refine hgo.mono ?_
  rintro e w1 ⟨rfl, hb1⟩
  clear hgo
  have hq1 := hb0.trans (hb1.mono hb0.size)
  have c1 : w1.cell? ⟨w.heap.size, 0, none⟩ = some (.slice a g.length cap) := (hb1.cell (p := ⟨w.heap.size, 0, none⟩) (by simp; omega)).trans (by simp [go_sem])
  go_wp2_with fail
  refine (hsize _ hq1).mono ?_
  rintro e w2 ⟨rfl, hb2⟩
  have hq2 := hq1.trans (hb2.mono hq1.size)
  have c2 := (hb2.cell (cell_lt c1)).trans c1
  go_wp2_with fail
  refine (l1All_any (n := g.length) (by omega)).mono ?_
  rintro e wA ⟨au, rfl, hau, hb3⟩
  have hqA := hq2.trans (hb3.mono hq2.size)
  have cA := (hb3.cell (cell_lt c2)).trans c2
  have hai := hau.ints (by rw [natsI_len, List.length_range]; omega)
  rw [natsI_len, List.length_range] at hau
  obtain ⟨aa, ac, rfl⟩ := hau.isSlice
  clear c1 c2 hau
  go_wp2_with fail
  go_loopw [3, 5] (fun bv sv wr => ∃ (k : Nat) (best : List Nat), k ≤ g.length ∧ sv = .int .i64 k ∧ SlI (fun _ => True) wr .i64 bv (natsI best) ∧ RowKit.Hid (BestL g (fun x _ => x < k) best) ∧ Below wA.heap.size wA wr) (fun _ sv _ => g.length - (RowKit.intOf sv).toNat)
  case atStart => exact ⟨0, [], Nat.zero_le _, rfl, SlI.emptyQ _ _ _ _, H0, Below.refl _ _⟩
  case round =>
    clear H0
    obtain ⟨k, best, hk, rfl, hbest, HB, hqa⟩ := hrel
    obtain ⟨ba, bc, rfl⟩ := hbest.slice
    simp only [natsI_len] at hbest ⊢
    have hq := hqA.trans (hqa.mono hqA.size)
    have cg := (hqa.cell (cell_lt cA)).trans cA
    by_cases hlt : k < g.length
    case neg =>
      obtain rfl : k = g.length := by omega
      have HF := Lib.hid (HB.out.end_ (fun q hq => hq.path.lt _ (getD_mem (by have := hq.three; omega))))
      go_wp2_with fail
      refine (hsize _ hq).mono ?_
      rintro e w5 ⟨rfl, hb5⟩
      go_wp2
      go_ret
      rw [← HF.out]
      exact ⟨_, rfl, (hbest.below hb5 (Nat.le_refl _)).lowS, hq.trans (hb5.mono hq.size)⟩
    obtain ⟨hcr0, hrow0⟩ := hc0 k hlt
    obtain ⟨rfl, -⟩ := ha (by omega)
    have hbl : b < w.heap.size := cell_lt hcr0
    have hcr := (hqA.cell (p := ⟨b, off + k, none⟩) (cell_lt hcr0)).trans hcr0
    have hrw := hrow0.below hqA (Nat.le_refl _)
    have hbe := row_bitsN HG.out hlt
    have hmem : ∀ y ∈ bitsN ((netsL g).getD k 0), y < g.length ∧ (y : Int) ∈ g.getD k [] ∧ ((netsL g).getD k 0).testBit y = true := fun y hy => by
      have h1 : (y : Int) ∈ g[k] := by rw [hbe]; exact List.mem_map.2 ⟨y, hy, rfl⟩
      have := HG.out.ge hlt _ h1
      have h2 : (y : Int) ∈ g.getD k [] := by simpa [hlt] using h1
      exact ⟨by omega, h2, by rw [nets_bit2 HG.out hlt]; simpa using h2⟩
    have hall : ∀ y, ((netsL g).getD k 0).testBit y = true → y ∈ bitsN ((netsL g).getD k 0) := fun y hy => (mem_bitsN (by rw [netsL_get hlt]; exact maskL_lt32 (HG.out.ge32 hlt))).2 hy
    rw [hbe] at hrw
    obtain ⟨ra, rb, ro, rc, hre, hrl, hra, hrc⟩ := hrw
    rw [hre] at hcr
    rw [natsI_len] at hcr hrl hra
    have hyl : (bitsN ((netsL g).getD k 0)).length ≤ 32 := by
      have := bitsI_len ((netsL g).getD k 0)
      simpa [bitsI] using this
    have HMEM := Lib.hid hmem
    have HALL := Lib.hid hall
    clear hcr0 hrow0 hre hbe hmem hall
    generalize bitsN ((netsL g).getD k 0) = Y at *
    have HB0 := Lib.hid (show BestL g (fun x y => x < k ∨ (x = k ∧ y ∈ Y.take 0)) best from HB.out.skip (fun q _ h => by simpa using h))
    go_wp2_with fail
    refine (hsize _ hq).mono ?_
    rintro e w5 ⟨rfl, hb5⟩
    have hq5 := hqa.trans (hb5.mono hqa.size)
    have hbest5 := hbest.below hb5 (Nat.le_refl _)
    have cg5 := (hb5.cell (cell_lt cg)).trans cg
    have cr5 := (hq5.cell (p := ⟨b, off + k, none⟩) (cell_lt hcr)).trans hcr
    go_wp2_with fail
    go_loopw [3, 6] (fun bv jv wr => ∃ (j : Nat) (best : List Nat), j ≤ Y.length ∧ jv = .int .i64 j ∧ SlI (fun _ => True) wr .i64 bv (natsI best) ∧ RowKit.Hid (BestL g (fun x y => x < k ∨ (x = k ∧ y ∈ Y.take j)) best) ∧ Below wA.heap.size wA wr) (fun _ jv _ => Y.length - (RowKit.intOf jv).toNat)
    case atStart => exact ⟨0, best, Nat.zero_le _, rfl, hbest5, HB0, hq5⟩
    case round =>
      clear HB0 HB hbest hbest5 hqa hq hq5 cg cg5 cr5 hb5
      obtain ⟨j, best, hj, rfl, hbest, HB, hqa⟩ := hrel
      obtain ⟨ba, bc, rfl⟩ := hbest.slice
      simp only [natsI_len] at hbest ⊢
      have hq := hqA.trans (hqa.mono hqA.size)
      have cg := (hqa.cell (cell_lt cA)).trans cA
      have cr := (hqa.cell (p := ⟨b, off + k, none⟩) (cell_lt hcr)).trans hcr
      by_cases hjl : j < Y.length
      case neg =>
        obtain rfl : j = Y.length := by omega
        have HBN := Lib.hid (show BestL g (fun x _ => x < k + 1) best from HB.out.skip (fun q hq' h => by
          by_cases e : q.getD 0 0 = k
          · right
            refine ⟨e, ?_⟩
            rw [List.take_length]
            apply HALL.out
            have := hq'.path.ch 0 (by have := hq'.three; omega)
            rw [e] at this
            exact this
          · left; omega))
        go_wp2_with fail
        go_roundw
        case rel => exact ⟨k + 1, best, by omega, by go_num, hbest, HBN, hqa⟩
        case measure => simp [RowKit.intOf]; omega
      obtain ⟨hzn, hze, hzb⟩ := HMEM.out _ (List.getElem_mem hjl)
      obtain ⟨rfl, -⟩ := hra (by omega)
      have e1 : wr.cell? ⟨rb, ro + j, none⟩ = some (.int .i64 (Y[j] : Int)) := by
        have h1 := hrc j (by rw [natsI_len]; exact hjl)
        rw [natsI_get] at h1
        exact (hqa.cell (cell_lt h1)).trans h1
      have HT := Lib.hid (show ∀ y, y ∈ Y.take (j + 1) → y ∈ Y.take j ∨ y = Y[j] from fun y hy => by
        rw [List.take_succ_eq_append_getElem hjl] at hy
        rcases List.mem_append.1 hy with h | h
        · exact .inl h
        · exact .inr (by simpa using h))
      have hne : k ≠ Y[j] := fun e => by
        have := nets_irr HG.out hlt
        rw [← e, this] at hzb; cases hzb
      generalize Y[j] = z at *
      have hcut := CutEdge_any HG.out (hv0.below hq (Nat.le_refl _)) hlt hzn hne hze
      have hcg := cutG_ok HG.out hlt hzn
      have HCG := Lib.hid hcg
      have HNE := Lib.hid hne
      have HZB := Lib.hid hzb
      clear hcg hne hzb hze
      go_wp2_with fail
      refine hcut.mono ?_
      rintro e w6 ⟨x6, rfl, hx6, hb6⟩
      clear hcut
      have hq6 := hqa.trans (hb6.mono hqa.size)
      have hx6r := hx6.rows (gok_small HCG.out)
      have hcl := cutG_len g k z
      obtain ⟨xa, xc, hxe⟩ := hx6.isSlice
      rw [hcl] at hxe
      subst hxe
      have hb7 : Below w6.heap.size w6 (w6.alloc (.cells #[.slice xa g.length xc] 29)) := (Below.refl _ _).alloc (Nat.le_refl _) _
      have hq7 := hq6.trans (hb7.mono hq6.size)
      have hx7 := hx6r.below hb7 (Nat.le_refl _)
      have hfs : firstN g.length < 2 ^ g.length := by unfold firstN; have := Nat.two_pow_pos g.length; omega
      have hal := hai.below hq7 (Nat.le_refl _)
      rw [show natsI (List.range g.length) = bitsI (firstN g.length) from range_bits2 h16] at hal
      have hfr := l3From_any HCG.out hx7 hal (f := k) (by rw [hcl]; exact hfs) (by rw [hcl]; exact hlt) (first_bit hlt)
      rw [hcl] at hfr
      have HCL := Lib.hid hcl
      have hbest7 := hbest.below hb6 (Nat.le_refl _)
      have hbest8 := hbest7.below hb7 (Nat.le_refl _)
      clear hx6 hx6r hal hfs hcl hbest hbest7
      go_wp2_with fail
      refine hfr.mono ?_
      rintro e w8 ⟨ob, oc, D, rfl, hob, hrow, hD, hb8⟩
      clear hfr
      have hq8 := hq7.trans (hb8.mono hq7.size)
      have hCI : CutI g k z D := ⟨HG.out, hlt, hzn, HZB.out, HCG.out, hD⟩
      have HCI := Lib.hid hCI
      have hbest9 := hbest8.below hb8 (Nat.le_refl _)
      have hx8 := hx7.below hb8 (Nat.le_refl _)
      have d1 : w8.cell? ⟨ob, z, none⟩ = some (.int .i64 (D z)) := (hrow z hzn).1
      have cb8 : w8.cell? ⟨w6.heap.size, 0, none⟩ = some (.slice xa g.length xc) := (hb8.cell (p := ⟨w6.heap.size, 0, none⟩) (by simp)).trans (by simp [go_sem])
      clear hD hCI hbest8 hx7
      by_cases hneg : D z < 0
      case pos =>
        have hnd : decide (D z < 0) = true := decide_eq_true hneg
        have HBN := Lib.hid (show BestL g (fun x y => x < k ∨ (x = k ∧ y ∈ Y.take (j + 1))) best from HB.out.skip (fun q hq' h => by
          rcases h with h | ⟨h1, h2⟩
          · exact .inl h
          · rcases HT.out _ h2 with h3 | h3
            · exact .inr ⟨h1, h3⟩
            · exact (cut_none HCI.out hneg q hq' h1 h3).elim))
        clear hneg
        go_wp2_with fail
        go_roundw
        case rel => exact ⟨j + 1, best, by omega, by go_num, hbest9, HBN, hq8⟩
        case measure => simp [RowKit.intOf]; omega
      obtain ⟨K, hK⟩ : ∃ K : Nat, D z = (K : Int) := ⟨(D z).toNat, by omega⟩
      have hnd : decide ((K : Int) < 0) = false := decide_eq_false (by omega)
      obtain ⟨hloop, hmin⟩ := cut_some HCI.out hK
      have hK16 : K + 1 ≤ 16 := by
        have := loop_len hloop.path
        simp [dn_len] at this; omega
      have hdn := l3Down_any (wi := firstN g.length) (s := k) (oc := oc) HCG.out hx8 (by rw [HCL.out]; exact HCI.out.distI) (by rw [HCL.out]; exact HCI.out.d) (by rw [HCL.out]; exact hrow) (by rw [HCL.out]; exact hzn) hK (by omega)
      rw [HCL.out] at hdn
      rw [hK] at d1
      have hK0 : 0 < K := by
        have := hloop.three
        simp [dn_len] at this; omega
      have hdl := dn_len (netsL (cutG g k z)) D K z
      generalize dnN (netsL (cutG g k z)) D K z = P at *
      have HLOOP := Lib.hid hloop
      have HMIN := Lib.hid hmin
      have HDL := Lib.hid hdl
      clear hK hneg hloop hmin hdl hrow hx8
      go_wp2_with fail
      refine hdn.mono ?_
      rintro e w9 ⟨r, rfl, hr, hb9⟩
      clear hdn
      have hq9 := hq8.trans (hb9.mono hq8.size)
      have hbesta := hbest9.below hb9 (Nat.le_refl _)
      have hri := (hr.ints (by omega)).weak (S' := fun _ => True) fun _ _ => trivial
      obtain ⟨qa, qc, rfl⟩ := hr.isSlice
      have htk := hri.take (m := K) (by omega)
      rw [show (natsI (P ++ [k])).take K = natsI P by rw [← HDL.out]; simp [natsI]] at htk
      have hbc : Below w9.heap.size w9 (w9.alloc (.cells #[.int .i64 (k : Int)] 2)) := (Below.refl _ _).alloc (Nat.le_refl _) _
      have htk2 := htk.below hbc (Nat.le_refl _)
      have hone := own_new w9 wA.heap.size 2 (.int .i64 (k : Int)) hq9.size
      have hqc := hq9.trans (hbc.mono hq9.size)
      have hbesta2 := hbesta.lowS
      obtain ⟨ta, tb, to, tc, hte, htl, hta, htc⟩ := htk2
      have hPl : (natsI P).length = K := by rw [natsI_len]; exact HDL.out
      rw [hPl] at hte htl hta
      simp only [Value.slice.injEq] at hte
      obtain ⟨rfl, -, rfl⟩ := hte
      obtain ⟨rfl, -⟩ := hta hK0
      have hcapK : (K : Int) ≤ (qc : Int) := by omega
      have hnews := htc.news
      have hwk : IntKind.i64.wrap (K : Int) = (K : Int) := IntWalk.i64_in _ (by omega)
      clear hri htk hr hbest9 hbesta hPl htc d1 cb8
      go_wp2_with (at_builtin; refine hold_in ?_)
      unfold HoldP
      refine wpList_append elI64 rfl _ _ rfl (B := wA.heap.size) (v := .slice (some ⟨w9.heap.size, 0, none⟩) 1 1) (n := 1) (xs := [.int .i64 (k : Int)]) hone rfl (ad := ⟨tb, to, none⟩) (m := K) (c := qc) (news := (natsI P).map (.int .i64)) rfl (by simp [natsI, HDL.out]) hnews ints_one (by omega) hqc.size ?_
      intro v' wb hown5 hgr hmv
      have hqb : Below wA.heap.size wA wb := (KeptBut.of_grown hgr).below hqc hqc.size (fun b hb => by
        have h1 : w9.heap.size = b := by simpa [Value.ownBlock] using hb
        have := hq9.size; omega)
      have hbestb : SlI (fun _ => True) wb .i64 (.slice ba best.length bc) (natsI best) := (hbesta2.keep (fun b hb => (hgr.block b (by simp; omega) (by simp [Value.ownBlock]; omega)).trans (hbc.block b hb))).weak (fun _ _ => trivial)
      have hli : SlI (fun _ => True) wb .i64 v' (natsI (k :: P)) := (Own.ints (xs := natsI (k :: P)) (by simpa [natsI] using hown5) (by omega)).weak (fun _ _ => trivial)
      obtain ⟨la, lc, rfl⟩ := hown5.isSlice
      have HNEW := Lib.hid (HB.out.take (V' := fun x y => x < k ∨ (x = k ∧ y ∈ Y.take (j + 1))) HLOOP.out (fun q hq' h => by
        rcases h with h | ⟨h1, h2⟩
        · exact .inl (.inl h)
        · rcases HT.out _ h2 with h3 | h3
          · exact .inl (.inr ⟨h1, h3⟩)
          · exact .inr (HMIN.out q hq' h1 h3)))
      have hls := l1Less_any hli hbestb
      clear hown5 hgr hmv hone htl hta hnews hwk hcapK hqc hbesta2 hbc HB
      by_cases hb0 : best = []
      · subst hb0
        have HN2 := Lib.hid (HNEW.out)
        have HN3 : RowKit.Hid (BestL g (fun x y => x < k ∨ (x = k ∧ y ∈ Y.take (j + 1))) (k :: P)) := Lib.hid (by have := HNEW.out; rwa [if_pos (.inl rfl)] at this)
        clear hls HNEW HN2
        go_wp2_with fail
        go_roundw
        case rel => exact ⟨j + 1, k :: P, by omega, by go_num, hli, HN3, hqb⟩
        case measure => simp [RowKit.intOf]; omega
      · have hbl1 : ((best.length : Int) == 0) = false := by
          rw [beq_eq_false_iff_ne]
          have : 0 < best.length := List.length_pos_iff.2 hb0
          omega
        have hbl2 : (best.length == 0) = false := by
          rw [beq_eq_false_iff_ne]
          have : 0 < best.length := List.length_pos_iff.2 hb0
          omega
        have HB0 := Lib.hid hb0
        clear hb0
        cases hlb : lessN (k :: P) best with
        | true =>
          have HN3 : RowKit.Hid (BestL g (fun x y => x < k ∨ (x = k ∧ y ∈ Y.take (j + 1))) (k :: P)) := Lib.hid (by have := HNEW.out; rwa [if_pos (.inr hlb)] at this)
          rw [hlb] at hls
          clear HNEW hlb
          go_wp2_with fail
          refine hls.mono ?_
          rintro e wc ⟨rfl, hd⟩
          clear hls
          have hlc := hli.drawn hd
          have hqd := hqb.trans (hd.below _)
          go_wp2_with fail
          go_roundw
          case rel => exact ⟨j + 1, k :: P, by omega, by go_num, hlc, HN3, hqd⟩
          case measure => simp [RowKit.intOf]; omega
        | false =>
          have HN3 : RowKit.Hid (BestL g (fun x y => x < k ∨ (x = k ∧ y ∈ Y.take (j + 1))) best) := Lib.hid (by
            have := HNEW.out
            rwa [if_neg (fun h => by
              rcases h with h | h
              · exact HB0.out h
              · rw [hlb] at h; cases h)] at this)
          rw [hlb] at hls
          clear HNEW hlb
          go_wp2_with fail
          refine hls.mono ?_
          rintro e wc ⟨rfl, hd⟩
          clear hls
          have hbd := hbestb.drawn hd
          have hqd := hqb.trans (hd.below _)
          go_wp2_with fail
          go_roundw
          case rel => exact ⟨j + 1, best, by omega, by go_num, hbd, HN3, hqd⟩
          case measure => simp [RowKit.intOf]; omega
theorem leastF_len (g : List (List Int)) : (natsI (leastF g)).length ≤ 1048576 := by
  rw [natsI_len]
  unfold leastF
  split
  case isTrue hg =>
    have h := (gokB_iff.1 hg).hi
    exact Nat.le_trans (pickG_len (G := LoopN (netsL g) g.length) (n := 16) (fun q hq => by have := loop_len hq.path; omega)) (by omega)
  case isFalse => simp
theorem conLeastLoop {g0 : List (List Int)} (hsm0 : SmallR g0 1048576) : ∃ (r0 : List Int), (∀ {S0 : Nat → Prop} {v0 : Value} {w : World}, SlR S0 w v0 g0 → Calls Tryd.prog 24 #[.agg #[v0]] w fun e w' => ∃ u0, e = .returned (u0) ∧ SlI (fun b => b < w'.heap.size) w' .i64 u0 r0 ∧ Below w.heap.size w w') ∧
    (∀ {S0 : Nat → Prop} {v0 : Value} {w : World}, Tab w → SlR S0 w v0 g0 → Calls Tryd.prog 25 #[.agg #[v0]] w fun e w' => ∃ u0, e = .returned (u0) ∧ Own w' w.heap.size 2 1 u0 r0.length (r0.map (.int .i64)) ∧ Below w.heap.size w w') ∧
    r0.length ≤ 1048576 := by
  exact ⟨natsI (leastF g0), fun h0 => specLeastLoop_any h0, fun ht h0 => implLeastLoop_any ht h0, leastF_len g0⟩
set_option maxHeartbeats 16000000 in
theorem lawLeastLoop_any {S0 : Nat → Prop} (v0 : Value) (g0 : List (List Int)) (w : World) (ht : Tab w) (hv0 : SlR S0 w v0 g0) :
    Calls Tryd.prog 4 #[.agg #[v0]] w fun e w' => e = .returned (.bool true) ∧ Below w.heap.size w w' := by
  obtain ⟨a0, c0, rfl⟩ := hv0.slice
  have q0 : Below w.heap.size w (w.alloc (.cells #[.slice a0 g0.length c0] 24)) := (Below.refl _ _).alloc (Nat.le_refl _) _
  go_enter Tryd.func4, Tryd.ntmps4
  go_wp2_with fail
  refine (szGraph_any _ _ _ _ (hv0.below q0 (Nat.le_refl _)) (by omega) (by omega)).mono ?_
  rintro e w1 ⟨r1, rfl, hr1, hs1, hm1, hb1⟩
  have q1 := q0.trans (hb1.mono q0.size)
  have z0 := q0.size
  have z1 : w.heap.size + 1 ≤ w1.heap.size := by have := hb1.size; simp at this; omega
  have b0_1 : w1.cell? ⟨w.heap.size, 0, none⟩ = some (.slice a0 g0.length c0) := (hb1.cell (p := ⟨w.heap.size, 0, none⟩) (by simp <;> omega)).trans (by simp [go_sem])
  by_cases hneg1 : r1 < 0
  case pos =>
    go_wp2
    go_ret
    exact ⟨rfl, q1⟩
  have hsm0 : SmallR g0 1048576 := hm1 (by omega)
  obtain ⟨r0, hS, hI, hN0⟩ := conLeastLoop hsm0
  have hB0 : r0.length ≤ 9223372036854775807 := by omega
  go_wp2_with fail
  refine (toGraphR_any (hv0.below q1 (Nat.le_refl _)) hsm0).mono ?_
  rintro e w2 ⟨x2, rfl, y2_2, hb2⟩
  have q2 := q1.trans (hb2.mono q1.size)
  have z2 := hb2.size
  have b0_2 : w2.cell? ⟨w.heap.size, 0, none⟩ = some (.slice a0 g0.length c0) := (hb2.cell (p := ⟨w.heap.size, 0, none⟩) (cell_lt b0_1)).trans b0_1
  obtain ⟨xa2, xc2, rfl⟩ := y2_2.isSlice
  go_wp2_with fail
  refine (hS (y2_2.rows hsm0)).mono ?_
  rintro e w3 ⟨w0u0, rfl, w0_0_3, hb3⟩
  have q3 := q2.trans (hb3.mono q2.size)
  have z3 := hb3.size
  have b0_3 : w3.cell? ⟨w.heap.size, 0, none⟩ = some (.slice a0 g0.length c0) := (hb3.cell (p := ⟨w.heap.size, 0, none⟩) (cell_lt b0_2)).trans b0_2
  have y2_3 := y2_2.below hb3 (Nat.le_refl _)
  obtain ⟨w0a0, w0c0, rfl⟩ := w0_0_3.slice
  go_wp2_with fail
  refine (toGraphR_any (hv0.below q3 (Nat.le_refl _)) hsm0).mono ?_
  rintro e w4 ⟨x4, rfl, y4_4, hb4⟩
  have q4 := q3.trans (hb4.mono q3.size)
  have z4 := hb4.size
  have b0_4 : w4.cell? ⟨w.heap.size, 0, none⟩ = some (.slice a0 g0.length c0) := (hb4.cell (p := ⟨w.heap.size, 0, none⟩) (cell_lt b0_3)).trans b0_3
  have y2_4 := y2_3.below hb4 (Nat.le_refl _)
  have w0_0_4 := w0_0_3.below hb4 (Nat.le_refl _)
  obtain ⟨xa4, xc4, rfl⟩ := y4_4.isSlice
  have hb5 : Below w4.heap.size w4 (w4.alloc (.cells #[.slice xa4 g0.length xc4] 29)) := (Below.refl _ _).alloc (Nat.le_refl _) _
  obtain ⟨w5, ew5⟩ : ∃ x, x = (w4.alloc (.cells #[.slice xa4 g0.length xc4] 29)) := ⟨_, rfl⟩
  rw [← ew5] at hb5
  have l5_5 : w5.cell? ⟨w4.heap.size, 0, none⟩ = some (.slice xa4 g0.length xc4) := by rw [ew5]; simp [go_sem]
  have zz5 : w5.heap.size = w4.heap.size + 1 := by rw [ew5]; simp
  have q5 := q4.trans (hb5.mono q4.size)
  have z5 := hb5.size
  have b0_5 : w5.cell? ⟨w.heap.size, 0, none⟩ = some (.slice a0 g0.length c0) := (hb5.cell (p := ⟨w.heap.size, 0, none⟩) (cell_lt b0_4)).trans b0_4
  have y2_5 := y2_4.below hb5 (Nat.le_refl _)
  have w0_0_5 := w0_0_4.below hb5 (Nat.le_refl _)
  have y4_5 := y4_4.below hb5 (Nat.le_refl _)
  have b0_5e : (w4.alloc (.cells #[.slice xa4 g0.length xc4] 29)).cell? ⟨w.heap.size, 0, none⟩ = some (.slice a0 g0.length c0) := by rw [← ew5]; exact b0_5
  have l5_5e : (w4.alloc (.cells #[.slice xa4 g0.length xc4] 29)).cell? ⟨w4.heap.size, 0, none⟩ = some (.slice xa4 g0.length xc4) := by rw [← ew5]; exact l5_5
  go_wp2_with fail
  rw [← ew5]
  refine (hI (ht.below q5 (Nat.le_refl _)) (y4_5.rows hsm0)).mono ?_
  rintro e w6 ⟨g0u0, rfl, g0_0_6, hb6⟩
  have q6 := q5.trans (hb6.mono q5.size)
  have z6 := hb6.size
  have b0_6 : w6.cell? ⟨w.heap.size, 0, none⟩ = some (.slice a0 g0.length c0) := (hb6.cell (p := ⟨w.heap.size, 0, none⟩) (cell_lt b0_5)).trans b0_5
  have l5_6 : w6.cell? ⟨w4.heap.size, 0, none⟩ = some (.slice xa4 g0.length xc4) := (hb6.cell (p := ⟨w4.heap.size, 0, none⟩) (cell_lt l5_5)).trans l5_5
  have y2_6 := y2_5.below hb6 (Nat.le_refl _)
  have w0_0_6 := w0_0_5.below hb6 (Nat.le_refl _)
  have y4_6 := y4_5.below hb6 (Nat.le_refl _)
  obtain ⟨g0a0, g0c0, rfl⟩ := g0_0_6.isSlice
  go_wp2_with fail
  refine (eqI_same (Own.ints g0_0_6 hB0) w0_0_6).mono ?_
  rintro e w7 ⟨rfl, hb7⟩
  have q7 := q6.trans (hb7.mono q6.size)
  have z7 := hb7.size
  have b0_7 : w7.cell? ⟨w.heap.size, 0, none⟩ = some (.slice a0 g0.length c0) := (hb7.cell (p := ⟨w.heap.size, 0, none⟩) (cell_lt b0_6)).trans b0_6
  have l5_7 : w7.cell? ⟨w4.heap.size, 0, none⟩ = some (.slice xa4 g0.length xc4) := (hb7.cell (p := ⟨w4.heap.size, 0, none⟩) (cell_lt l5_6)).trans l5_6
  have y2_7 := y2_6.below hb7 (Nat.le_refl _)
  have w0_0_7 := w0_0_6.below hb7 (Nat.le_refl _)
  have y4_7 := y4_6.below hb7 (Nat.le_refl _)
  have g0_0_7 := g0_0_6.below hb7 (Nat.le_refl _)
  go_wp2
  refine wp_region_held_drew (S := (fun w' => w'.cell? ⟨w.heap.size, 0, none⟩ = some (.slice a0 g0.length c0) ∧ w'.cell? ⟨w4.heap.size, 0, none⟩ = some (.slice xa4 g0.length xc4))) (by kernel_rfl) ?_ (fun hHeld => ?_)
  · first | exact ⟨‹_›, ‹_›⟩ | assumption | (simp [*, go_sem])
  refine wpAnyH_take (i := 0) (v := ?v1) (by simp only [List.getElem?_toArray, List.getElem?_cons_zero]; exact rfl) (by kernel_rfl) (by kernel_rfl) (by kernel_rfl) (by intro _ _ _ h; exact h) (Or.inl ⟨by rfl, ?y1⟩) hHeld ?_
  case y1 => (intro w hSw; (try dsimp only at hSw); go_simp; try (with_reducible rfl))
  try simp only [Act.put, List.setIfInBounds_toArray, List.set_cons_zero, List.set_cons_succ]
  refine wpAnyH_take (i := 1) (v := ?v2) (by simp only [List.getElem?_toArray, List.getElem?_cons_succ, List.getElem?_cons_zero]; exact rfl) (by kernel_rfl) (by kernel_rfl) (by kernel_rfl) (by intro _ _ _ h; exact h) (Or.inl ⟨by rfl, ?y2⟩) hHeld ?_
  case y2 => (intro w hSw; (try dsimp only at hSw); go_simp; try (with_reducible rfl))
  try simp only [Act.put, List.setIfInBounds_toArray, List.set_cons_zero, List.set_cons_succ]
  refine wpAnyH_ready (rs := [2]) (by kernel_rfl) (by simp) ?_
  refine AllReadyH.cons (by simp only [List.getElem?_toArray, List.getElem?_cons_succ, List.getElem?_cons_zero]; exact rfl) (fun K hK => ?_) AllReadyH.nil
  go_simp
  have q7d := q7.drew
  have y2_7k := y2_7
  have y2_7 := y2_7.below ((Below.refl w7.heap.size w7).drew) (Nat.le_refl _)
  have w0_0_7k := w0_0_7
  have w0_0_7 := w0_0_7.below ((Below.refl w7.heap.size w7).drew) (Nat.le_refl _)
  have y4_7k := y4_7
  have y4_7 := y4_7.below ((Below.refl w7.heap.size w7).drew) (Nat.le_refl _)
  have g0_0_7k := g0_0_7
  have g0_0_7 := g0_0_7.below ((Below.refl w7.heap.size w7).drew) (Nat.le_refl _)
  refine (toGraph_any _ _ _ (hv0.below q7d (Nat.le_refl _)) hsm0).mono ?_
  rintro e w8 ⟨x8, rfl, y8_8, hb8⟩
  replace hb8 : Below w7.heap.size w7 w8 := ⟨hb8.os, hb8.tape, hb8.output, hb8.size, hb8.block⟩
  replace y2_7 := y2_7k
  replace w0_0_7 := w0_0_7k
  replace y4_7 := y4_7k
  replace g0_0_7 := g0_0_7k
  have q8 := q7.trans (hb8.mono q7.size)
  have z8 := hb8.size
  have b0_8 : w8.cell? ⟨w.heap.size, 0, none⟩ = some (.slice a0 g0.length c0) := (hb8.cell (p := ⟨w.heap.size, 0, none⟩) (cell_lt b0_7)).trans b0_7
  have l5_8 : w8.cell? ⟨w4.heap.size, 0, none⟩ = some (.slice xa4 g0.length xc4) := (hb8.cell (p := ⟨w4.heap.size, 0, none⟩) (cell_lt l5_7)).trans l5_7
  have y2_8 := y2_7.below hb8 (Nat.le_refl _)
  have w0_0_8 := w0_0_7.below hb8 (Nat.le_refl _)
  have y4_8 := y4_7.below hb8 (Nat.le_refl _)
  have g0_0_8 := g0_0_7.below hb8 (Nat.le_refl _)
  try dsimp only
  refine hK.out _ _ ?h4 (fun hHeld => ?_)
  case h4 => first | exact ⟨‹_›, ‹_›⟩ | assumption | (simp [*, go_sem])
  clear hK K
  try simp only [Act.put, List.setIfInBounds_toArray, List.set_cons_zero, List.set_cons_succ]
  refine wpAnyH_ready (rs := [3]) (by kernel_rfl) (by simp) ?_
  refine AllReadyH.cons (by simp only [List.getElem?_toArray, List.getElem?_cons_succ, List.getElem?_cons_zero]; exact rfl) (fun K hK => ?_) AllReadyH.nil
  go_simp
  refine (eqG_same (y4_8.rows hsm0) y8_8).mono ?_
  rintro e w9 ⟨rfl, hb9⟩
  have q9 := q8.trans (hb9.mono q8.size)
  have z9 := hb9.size
  have b0_9 : w9.cell? ⟨w.heap.size, 0, none⟩ = some (.slice a0 g0.length c0) := (hb9.cell (p := ⟨w.heap.size, 0, none⟩) (cell_lt b0_8)).trans b0_8
  have l5_9 : w9.cell? ⟨w4.heap.size, 0, none⟩ = some (.slice xa4 g0.length xc4) := (hb9.cell (p := ⟨w4.heap.size, 0, none⟩) (cell_lt l5_8)).trans l5_8
  have y2_9 := y2_8.below hb9 (Nat.le_refl _)
  have w0_0_9 := w0_0_8.below hb9 (Nat.le_refl _)
  have y4_9 := y4_8.below hb9 (Nat.le_refl _)
  have g0_0_9 := g0_0_8.below hb9 (Nat.le_refl _)
  have y8_9 := y8_8.below hb9 (Nat.le_refl _)
  try dsimp only
  refine hK.out _ _ ?h6 (fun hHeld => ?_)
  case h6 => first | exact ⟨‹_›, ‹_›⟩ | assumption | (simp [*, go_sem])
  clear hK K
  try simp only [Act.put, List.setIfInBounds_toArray, List.set_cons_zero, List.set_cons_succ]
  refine wpAnyH_take (i := 4) (v := ?v7) (by simp only [List.getElem?_toArray, List.getElem?_cons_succ, List.getElem?_cons_zero]; exact rfl) (by kernel_rfl) (by kernel_rfl) (by kernel_rfl) (by intro _ _ _ h; exact h) (Or.inl ⟨by rfl, ?y7⟩) hHeld ?_
  case y7 => (intro w hSw; (try dsimp only at hSw); go_simp; try (with_reducible rfl))
  try simp only [Act.put, List.setIfInBounds_toArray, List.set_cons_zero, List.set_cons_succ]
  refine wpAnyH_done (by kernel_rfl) ?_ _
  go_wp2_with fail
  refine (markG_any y4_9 hsm0 (by omega) (by omega) (by omega)).mono ?_
  rintro e w10 ⟨k10, rfl, hk10, hl10, ht10⟩
  have q10 := ht10.below q9 (by have := q9.size; omega) q9.size
  have z10 := ht10.size
  have b0_10 : w10.cell? ⟨w.heap.size, 0, none⟩ = some (.slice a0 g0.length c0) := (ht10.cell (p := ⟨w.heap.size, 0, none⟩) (cell_lt b0_9) (by have : w.heap.size < w9.heap.size := cell_lt b0_9; show w.heap.size < _ ∨ _ ≤ w.heap.size; omega)).trans b0_9
  have l5_10 : w10.cell? ⟨w4.heap.size, 0, none⟩ = some (.slice xa4 g0.length xc4) := (ht10.cell (p := ⟨w4.heap.size, 0, none⟩) (cell_lt l5_9) (by have : w4.heap.size < w9.heap.size := cell_lt l5_9; show w4.heap.size < _ ∨ _ ≤ w4.heap.size; omega)).trans l5_9
  have y2_10 := y2_9.between ht10 (by omega)
  have w0_0_10 := w0_0_9.between ht10 (fun b (hb : b < w3.heap.size) => ⟨by omega, by omega⟩)
  have g0_0_10 := g0_0_9.between ht10 (by omega)
  have hkn10 : ¬ k10 < 0 := by omega
  go_wp2_with fail
  refine (eqI_same (Own.ints g0_0_10 hB0) w0_0_10).mono ?_
  rintro e w11 ⟨rfl, hb11⟩
  have q11 := q10.trans (hb11.mono q10.size)
  have z11 := hb11.size
  have b0_11 : w11.cell? ⟨w.heap.size, 0, none⟩ = some (.slice a0 g0.length c0) := (hb11.cell (p := ⟨w.heap.size, 0, none⟩) (cell_lt b0_10)).trans b0_10
  have l5_11 : w11.cell? ⟨w4.heap.size, 0, none⟩ = some (.slice xa4 g0.length xc4) := (hb11.cell (p := ⟨w4.heap.size, 0, none⟩) (cell_lt l5_10)).trans l5_10
  have y2_11 := y2_10.below hb11 (Nat.le_refl _)
  have w0_0_11 := w0_0_10.below hb11 (Nat.le_refl _)
  have g0_0_11 := g0_0_10.below hb11 (Nat.le_refl _)
  go_wp2_with fail
  refine (markI_any g0_0_11 hN0).mono ?_
  rintro e w12 ⟨rfl, g0_0_12, ht12⟩
  have q12 := ht12.below q11 (by have := q11.size; omega) q11.size
  have z12 := ht12.size
  have b0_12 : w12.cell? ⟨w.heap.size, 0, none⟩ = some (.slice a0 g0.length c0) := (ht12.cell (p := ⟨w.heap.size, 0, none⟩) (cell_lt b0_11) (by have : w.heap.size < w11.heap.size := cell_lt b0_11; show w.heap.size < _ ∨ _ ≤ w.heap.size; omega)).trans b0_11
  have l5_12 : w12.cell? ⟨w4.heap.size, 0, none⟩ = some (.slice xa4 g0.length xc4) := (ht12.cell (p := ⟨w4.heap.size, 0, none⟩) (cell_lt l5_11) (by have : w4.heap.size < w11.heap.size := cell_lt l5_11; show w4.heap.size < _ ∨ _ ≤ w4.heap.size; omega)).trans l5_11
  have y2_12 := y2_11.between ht12 (by omega)
  have w0_0_12 := w0_0_11.between ht12 (fun b (hb : b < w3.heap.size) => ⟨by omega, by omega⟩)
  go_wp2_with fail
  refine (heldI_any (Own.ints g0_0_12 hB0) hN0).mono ?_
  rintro e w13 ⟨rfl, hb13⟩
  have q13 := q12.trans (hb13.mono q12.size)
  have z13 := hb13.size
  have b0_13 : w13.cell? ⟨w.heap.size, 0, none⟩ = some (.slice a0 g0.length c0) := (hb13.cell (p := ⟨w.heap.size, 0, none⟩) (cell_lt b0_12)).trans b0_12
  have l5_13 : w13.cell? ⟨w4.heap.size, 0, none⟩ = some (.slice xa4 g0.length xc4) := (hb13.cell (p := ⟨w4.heap.size, 0, none⟩) (cell_lt l5_12)).trans l5_12
  have y2_13 := y2_12.below hb13 (Nat.le_refl _)
  have w0_0_13 := w0_0_12.below hb13 (Nat.le_refl _)
  have g0_0_13 := g0_0_12.below hb13 (Nat.le_refl _)
  have hmn13 : ¬ (1 + (r0.length : Int)) < 0 := by omega
  go_wp2_with fail
  refine (toGraphR_any (hv0.below q13 (Nat.le_refl _)) hsm0).mono ?_
  rintro e w14 ⟨x14, rfl, y14_14, hb14⟩
  have q14 := q13.trans (hb14.mono q13.size)
  have z14 := hb14.size
  have b0_14 : w14.cell? ⟨w.heap.size, 0, none⟩ = some (.slice a0 g0.length c0) := (hb14.cell (p := ⟨w.heap.size, 0, none⟩) (cell_lt b0_13)).trans b0_13
  have l5_14 : w14.cell? ⟨w4.heap.size, 0, none⟩ = some (.slice xa4 g0.length xc4) := (hb14.cell (p := ⟨w4.heap.size, 0, none⟩) (cell_lt l5_13)).trans l5_13
  have y2_14 := y2_13.below hb14 (Nat.le_refl _)
  have w0_0_14 := w0_0_13.below hb14 (Nat.le_refl _)
  have g0_0_14 := g0_0_13.below hb14 (Nat.le_refl _)
  obtain ⟨xa14, xc14, rfl⟩ := y14_14.isSlice
  go_wp2_with fail
  refine (hI (ht.below q14 (Nat.le_refl _)) (y14_14.rows hsm0)).mono ?_
  rintro e w15 ⟨h0u0, rfl, h0_0_15, hb15⟩
  have q15 := q14.trans (hb15.mono q14.size)
  have z15 := hb15.size
  have b0_15 : w15.cell? ⟨w.heap.size, 0, none⟩ = some (.slice a0 g0.length c0) := (hb15.cell (p := ⟨w.heap.size, 0, none⟩) (cell_lt b0_14)).trans b0_14
  have l5_15 : w15.cell? ⟨w4.heap.size, 0, none⟩ = some (.slice xa4 g0.length xc4) := (hb15.cell (p := ⟨w4.heap.size, 0, none⟩) (cell_lt l5_14)).trans l5_14
  have y2_15 := y2_14.below hb15 (Nat.le_refl _)
  have w0_0_15 := w0_0_14.below hb15 (Nat.le_refl _)
  have g0_0_15 := g0_0_14.below hb15 (Nat.le_refl _)
  have y14_15 := y14_14.below hb15 (Nat.le_refl _)
  obtain ⟨h0a0, h0c0, rfl⟩ := h0_0_15.isSlice
  go_wp2_with fail
  refine (eqI_same (Own.ints h0_0_15 hB0) w0_0_15).mono ?_
  rintro e w16 ⟨rfl, hb16⟩
  have q16 := q15.trans (hb16.mono q15.size)
  have z16 := hb16.size
  have b0_16 : w16.cell? ⟨w.heap.size, 0, none⟩ = some (.slice a0 g0.length c0) := (hb16.cell (p := ⟨w.heap.size, 0, none⟩) (cell_lt b0_15)).trans b0_15
  have l5_16 : w16.cell? ⟨w4.heap.size, 0, none⟩ = some (.slice xa4 g0.length xc4) := (hb16.cell (p := ⟨w4.heap.size, 0, none⟩) (cell_lt l5_15)).trans l5_15
  have y2_16 := y2_15.below hb16 (Nat.le_refl _)
  have w0_0_16 := w0_0_15.below hb16 (Nat.le_refl _)
  have g0_0_16 := g0_0_15.below hb16 (Nat.le_refl _)
  have y14_16 := y14_15.below hb16 (Nat.le_refl _)
  have h0_0_16 := h0_0_15.below hb16 (Nat.le_refl _)
  go_wp2_with fail
  refine (heldI_any (Own.ints g0_0_16 hB0) hN0).mono ?_
  rintro e w17 ⟨rfl, hb17⟩
  have q17 := q16.trans (hb17.mono q16.size)
  have z17 := hb17.size
  have b0_17 : w17.cell? ⟨w.heap.size, 0, none⟩ = some (.slice a0 g0.length c0) := (hb17.cell (p := ⟨w.heap.size, 0, none⟩) (cell_lt b0_16)).trans b0_16
  have l5_17 : w17.cell? ⟨w4.heap.size, 0, none⟩ = some (.slice xa4 g0.length xc4) := (hb17.cell (p := ⟨w4.heap.size, 0, none⟩) (cell_lt l5_16)).trans l5_16
  have y2_17 := y2_16.below hb17 (Nat.le_refl _)
  have w0_0_17 := w0_0_16.below hb17 (Nat.le_refl _)
  have g0_0_17 := g0_0_16.below hb17 (Nat.le_refl _)
  have y14_17 := y14_16.below hb17 (Nat.le_refl _)
  have h0_0_17 := h0_0_16.below hb17 (Nat.le_refl _)
  have hmn17 : ¬ (1 + (r0.length : Int)) < 0 := by omega
  go_wp2
  go_ret
  exact ⟨rfl, q17⟩
end Go.Proofs.YthpbeiihlembnaaDoor
