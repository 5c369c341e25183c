/- ModelOk of the program. -/
import Derived.Test.YtklnjpdpinccoaaDoorModOk1
import Derived.Test.YtklnjpdpinccoaaDoorReach
namespace Go.Proofs.YtklnjpdpinccoaaDoor
open Go.RowKit
def IdxP2 (b : Bool) (w : World) (e : Ending) (w' : World) : Prop := ∃ r : Int, e = .returned (.int .i64 r) ∧ (b = true → 0 ≤ r) ∧ (b = false → r < 0) ∧ Drawn w w'
def IdxB (b : Bool) (w : World) (e : Ending) (w' : World) : Prop := ∃ r : Int, e = .returned (.int .i64 r) ∧ (b = true → 0 ≤ r) ∧ (b = false → r < 0) ∧ Below w.heap.size w w'
def joinB (a : List Nat) (s t : Nat) : Bool := (bitsN s).any fun v => decide (a.getD v 0 &&& t ≠ 0)
theorem mem_edgesL {g : List (List Int)} (hg : GOk g) {e : List Int} : e ∈ edgesL g ↔ ∃ u v : Nat, ∃ hu : u < g.length, v < g.length ∧ u < v ∧ (v : Int) ∈ g[u] ∧ e = [(u : Int), (v : Int)] := by
  rw [edgesL, mem_edgesTo]
  constructor
  · rintro ⟨u, hu, v, hv, hlt, rfl⟩
    rw [getD_lt hu] at hv
    have hb := hg.ge hu v hv
    have e : ((v.toNat : Nat) : Int) = v := by omega
    exact ⟨u, v.toNat, hu, by omega, by omega, by rw [e]; exact hv, by rw [e]⟩
  · rintro ⟨u, v, hu, hv, hlt, hm, rfl⟩
    exact ⟨u, hu, v, by rw [getD_lt hu]; exact hm, by omega, rfl⟩
theorem GOk.sym2 {g : List (List Int)} (hg : GOk g) {u v : Nat} (hu : u < g.length) (hv : v < g.length) (h : (v : Int) ∈ g[u]) : (u : Int) ∈ g[v] := by
  have := hg.symm u hu _ h
  rwa [Int.toNat_natCast, getD_lt hv] at this
theorem join_betw {g : List (List Int)} {A B : List Int} (hg : GOk g) (hA : Rise A g.length) (hB : Rise B g.length) : joinB (netsL g) (maskL A) (maskL B) = betwB g A B := by
  have h16 := hg.hi
  have hA0 : ∀ x ∈ A, 0 ≤ x := fun x hx => (rise_ge hA x hx).1
  have hB0 : ∀ x ∈ B, 0 ≤ x := fun x hx => (rise_ge hB x hx).1
  have hm : maskL A < 4294967296 := Nat.lt_trans (maskL_lt (n := g.length) fun x hx => rise_ge hA x hx) (pow16_lt h16)
  rw [Bool.eq_iff_iff]
  unfold joinB betwB
  rw [List.any_eq_true, List.any_eq_true]
  constructor
  · rintro ⟨v, hv, h⟩
    rw [mem_bitsN hm, testBit_maskL hA0, decide_eq_true_eq] at hv
    have hvn := rise_ge hA _ hv
    have hvl : v < g.length := by omega
    rw [decide_eq_true_eq, netsL_get hvl] at h
    obtain ⟨y, hyB, hyg⟩ := (and_mask_zero (fun x hx => (hg.ge hvl x hx).1) hB0).1 h
    have hyn := hg.ge hvl y hyg
    obtain ⟨z, rfl⟩ := Int.eq_ofNat_of_zero_le hyn.1
    have hne : (z : Int) ≠ v := fun e => hg.irrefl v hvl (by rw [← e]; exact hyg)
    have hzl : z < g.length := by omega
    by_cases hlt : v < z
    · refine ⟨[(v : Int), (z : Int)], (mem_edgesL hg).2 ⟨v, z, hvl, hzl, hlt, hyg, rfl⟩, ?_⟩
      simp [tst, hv, hyB]
    · refine ⟨[(z : Int), (v : Int)], (mem_edgesL hg).2 ⟨z, v, hzl, hvl, by omega, hg.sym2 hvl hzl hyg, rfl⟩, ?_⟩
      simp [tst, hv, hyB]
  · rintro ⟨e, he, ht⟩
    obtain ⟨u, v, hu, hv, hlt, hm2, rfl⟩ := (mem_edgesL hg).1 he
    simp only [tst, List.getD_cons_zero, List.getD_cons_succ, Bool.or_eq_true, Bool.and_eq_true, decide_eq_true_eq] at ht
    rcases ht with ⟨h1, h2⟩ | ⟨h1, h2⟩
    · refine ⟨u, by rw [mem_bitsN hm, testBit_maskL hA0, decide_eq_true_eq]; exact h1, ?_⟩
      rw [decide_eq_true_eq, netsL_get hu]
      exact (and_mask_zero (fun x hx => (hg.ge hu x hx).1) hB0).2 ⟨_, h2, hm2⟩
    · refine ⟨v, by rw [mem_bitsN hm, testBit_maskL hA0, decide_eq_true_eq]; exact h1, ?_⟩
      rw [decide_eq_true_eq, netsL_get hv]
      exact (and_mask_zero (fun x hx => (hg.ge hv x hx).1) hB0).2 ⟨_, h2, hg.sym2 hu hv hm2⟩
theorem natsI_getE {l : List Nat} {k : Nat} (hk : k < (natsI l).length) (hk2 : k < l.length) : (natsI l)[k] = (l[k] : Nat) := by simp [natsI]
set_option maxHeartbeats 1000000 in
theorem joClo_any {S : Nat → Prop} {b1 b2 v t : Nat} {u : Value} {a : List Nat} {w : World} (hu : SlI S w .u32 u (natsI a)) (h1 : w.cell? ⟨b1, 0, none⟩ = some u) (h2 : w.cell? ⟨b2, 0, none⟩ = some (.int .u32 (t : Int))) (hv : v < a.length) (hal : ∀ m ∈ a, m < 4294967296) (ht : t < 4294967296) :
    Calls Tryd.prog 153 #[.int .i64 (v : Int), .pointer (some ⟨b1, 0, none⟩), .pointer (some ⟨b2, 0, none⟩)] w fun e w' => e = .returned (.bool (decide (a.getD v 0 &&& t ≠ 0))) ∧ Drawn w w' := by
  obtain ⟨ua, ub, uo, ucap, rfl, hul, hua, huc⟩ := hu
  rw [natsI_len] at *
  have hcell := huc v (by rw [natsI_len]; exact hv)
  rw [natsI_getE _ hv] at hcell
  obtain ⟨rfl, -⟩ := hua (by omega)
  have hx32 := hal a[v] (List.getElem_mem _)
  have hgd : a.getD v 0 = a[v] := by simp [hv]
  rw [hgd]
  generalize a[v] = x at *
  have hnd : bits BinOp.and IntKind.u32 (x : Int) (t : Int) = ((x &&& t : Nat) : Int) := u32_and_nat x t hx32 ht
  have he : ((((x &&& t : Nat) : Int)) != 0) = decide (x &&& t ≠ 0) := by
    rw [Bool.eq_iff_iff, bne_iff_ne, decide_eq_true_eq]; omega
  have he2 : ((x &&& t) != 0) = decide (x &&& t ≠ 0) := by
    rw [Bool.eq_iff_iff, bne_iff_ne, decide_eq_true_eq]
  generalize x &&& t = r at *
  generalize decide (r ≠ 0) = bb at *
  clear hgd huc hua hul
  go_enter Tryd.func153, Tryd.ntmps153
  go_wp2
  go_quiet (fail)
  go_wp2
  go_ret
  exact ⟨rfl, ⟨_, rfl⟩⟩
set_option maxHeartbeats 1000000 in
theorem joIndex_any {S S' : Nat → Prop} {b1 b2 t : Nat} {v u : Value} {a l : List Nat} {w : World} (hv : SlI S w .u32 v (natsI a)) (hu : SlI S' w .i64 u (natsI l)) (h1 : w.cell? ⟨b1, 0, none⟩ = some v) (h2 : w.cell? ⟨b2, 0, none⟩ = some (.int .u32 (t : Int))) (hk : ∀ x ∈ l, x < a.length) (hal : ∀ m ∈ a, m < 4294967296) (ht : t < 4294967296) :
    Calls Tryd.prog 179 #[u, .func (Fn.func 153) #[] #[.pointer (some ⟨b1, 0, none⟩), .pointer (some ⟨b2, 0, none⟩)]] w (IdxP2 (l.any fun x => decide (a.getD x 0 &&& t ≠ 0)) w) := by
  obtain ⟨ub, uo, ucap, hue, huc⟩ := hu.at_
  have hul := hu.len
  obtain ⟨ua, uc, rfl⟩ := hu.slice
  rw [natsI_len] at *
  have HK := Lib.hid hk; clear hk
  go_enter Tryd.func179, Tryd.ntmps179
  go_wp2
  go_loopw [8] (fun i wr => ∃ k : Nat, k ≤ l.length ∧ i = .int .i64 k ∧ RowKit.Hid (∀ x ∈ l.take k, ¬ decide (a.getD x 0 &&& t ≠ 0) = true) ∧ Drawn w wr) (fun i _ => l.length - (intOf i).toNat)
  case atStart => exact ⟨0, Nat.zero_le _, rfl, Lib.hid (fun x h => by simp at h), Drawn.refl _⟩
  case round =>
    obtain ⟨k, hk, rfl, HN, hq⟩ := hrel
    by_cases hlt : k < l.length
    · have hue := hue (by omega)
      simp only [Value.slice.injEq, true_and] at hue
      obtain ⟨rfl, rfl⟩ := hue
      have hcell := (hq.cell _).trans (huc k (by rw [natsI_len]; exact hlt))
      rw [natsI_getE _ hlt] at hcell
      have hxa := HK.out _ (List.getElem_mem hlt)
      have hcl := joClo_any (hv.drawn hq) ((hq.cell _).trans h1) ((hq.cell _).trans h2) hxa hal ht
      have htk : l.take (k + 1) = l.take k ++ [l[k]] := List.take_succ_eq_append_getElem hlt
      have hmem : l[k] ∈ l := List.getElem_mem hlt
      clear huc
      cases he : decide (a.getD l[k] 0 &&& t ≠ 0) with
      | true =>
        have HA := Lib.hid (show (l.any fun x => decide (a.getD x 0 &&& t ≠ 0)) = true from List.any_eq_true.2 ⟨l[k], hmem, he⟩)
        rw [he] at hcl
        clear he htk hmem
        go_wp2_with fail
        refine hcl.mono ?_
        rintro e w' ⟨rfl, hd⟩
        go_wp2
        go_ret
        exact ⟨(k : Int), rfl, fun _ => by omega, (fun h => by rw [HA.out] at h; cases h), hq.trans hd⟩
      | false =>
        have HA := Lib.hid (show ∀ x ∈ l.take (k + 1), ¬ decide (a.getD x 0 &&& t ≠ 0) = true from fun x hx => by
          rw [htk, List.mem_append, List.mem_singleton] at hx
          rcases hx with hx | rfl
          · exact HN.out x hx
          · rw [he]; simp)
        rw [he] at hcl
        clear he htk hmem
        go_wp2_with fail
        refine hcl.mono ?_
        rintro e w' ⟨rfl, hd⟩
        go_wp2
        go_roundw
        case rel => exact ⟨k + 1, by omega, by go_num, HA, hq.trans hd⟩
        case measure => simp [intOf]; omega
    · have HA := Lib.hid (show (l.any fun x => decide (a.getD x 0 &&& t ≠ 0)) = false from List.any_eq_false.2 fun x hx => HN.out x (by rw [List.take_of_length_le (by omega)]; exact hx))
      go_wp2
      go_ret
      exact ⟨-1, rfl, (fun h => by rw [HA.out] at h; cases h), fun _ => by omega, hq⟩
theorem joContains_any {S S' : Nat → Prop} {b1 b2 t : Nat} {v u : Value} {a l : List Nat} {w : World} (hv : SlI S w .u32 v (natsI a)) (hu : SlI S' w .i64 u (natsI l)) (h1 : w.cell? ⟨b1, 0, none⟩ = some v) (h2 : w.cell? ⟨b2, 0, none⟩ = some (.int .u32 (t : Int))) (hk : ∀ x ∈ l, x < a.length) (hal : ∀ m ∈ a, m < 4294967296) (ht : t < 4294967296) :
    Calls Tryd.prog 152 #[u, .func (Fn.func 153) #[] #[.pointer (some ⟨b1, 0, none⟩), .pointer (some ⟨b2, 0, none⟩)]] w fun e w' => e = .returned (.bool (l.any fun x => decide (a.getD x 0 &&& t ≠ 0))) ∧ Drawn w w' := by
  have hcl := joIndex_any hv hu h1 h2 hk hal ht
  generalize (l.any fun x => decide (a.getD x 0 &&& t ≠ 0)) = bb at *
  go_enter Tryd.func152, Tryd.ntmps152
  go_wp2_with fail
  refine hcl.mono ?_
  rintro e w1 ⟨r, rfl, hr1, hr2, hd⟩
  have hbb : decide ((0 : Int) ≤ r) = bb := by
    cases bb
    · have := hr2 rfl; exact decide_eq_false (by omega)
    · exact decide_eq_true (hr1 rfl)
  clear hr1 hr2
  go_wp2
  go_ret
  exact ⟨by first | rfl | (rw [hbb]) | (simp [hbb]), hd⟩
set_option maxHeartbeats 1000000 in
theorem areJoined_any {S : Nat → Prop} {u : Value} {a : List Nat} {s t : Nat} {w : World} (htb : Tab w) (hu : SlI S w .u32 u (natsI a)) (hal : ∀ m ∈ a, m < 4294967296) (ha16 : a.length ≤ 16) (hs : s < 2 ^ a.length) (ht : t < 4294967296) :
    Calls Tryd.prog 119 #[u, .int .u32 (s : Int), .int .u32 (t : Int)] w fun e w' => e = .returned (.bool (joinB a s t)) ∧ Below w.heap.size w w' := by
  have hs32 : s < 4294967296 := Nat.lt_trans hs (pow16_lt ha16)
  have hq0 : Below w.heap.size w ((w.alloc (.cells #[u] 71)).alloc (.cells #[.int .u32 (t : Int)] 66)) := ((Below.refl _ _).alloc (Nat.le_refl _) _).alloc (by simp) _
  have hbm : ∀ x ∈ bitsN s, x < a.length := fun x hx => bit_lt_of hs ((mem_bitsN hs32).1 hx)
  have hli := list_any s ((w.alloc (.cells #[u] 71)).alloc (.cells #[.int .u32 (t : Int)] 66)) (htb.below hq0 (Nat.le_refl _)) hs32
  obtain ⟨ua, uc, rfl⟩ := hu.slice
  have hbl := bitsI_len s
  go_enter Tryd.func119, Tryd.ntmps119
  go_wp2_with fail
  refine hli.mono ?_
  rintro e w1 ⟨u1, rfl, hu1, hb1⟩
  have hq1 := hq0.trans (hb1.mono hq0.size)
  have b0 : w1.cell? ⟨w.heap.size, 0, none⟩ = some (.slice ua (natsI a).length uc) := (hb1.cell (p := ⟨w.heap.size, 0, none⟩) (by simp <;> omega)).trans (by simp [go_sem])
  have b1 : w1.cell? ⟨w.heap.size + 1, 0, none⟩ = some (.int .u32 (t : Int)) := (hb1.cell (p := ⟨w.heap.size + 1, 0, none⟩) (by simp <;> omega)).trans (by simp [go_sem])
  have hui := hu1.ints (by omega)
  have hct := joContains_any (l := bitsN s) (hu.below hq1 (Nat.le_refl _)) hui b0 b1 hbm hal ht
  obtain ⟨va, vc, rfl⟩ := hu1.isSlice
  have HJ := Lib.hid (show joinB a s t = ((bitsN s).any fun x => decide (a.getD x 0 &&& t ≠ 0)) from rfl)
  generalize ((bitsN s).any fun x => decide (a.getD x 0 &&& t ≠ 0)) = bb at hct HJ
  clear hli
  go_wp2_with fail
  refine hct.mono ?_
  rintro e w2 ⟨rfl, hd⟩
  go_wp2
  go_ret
  exact ⟨by rw [HJ.out]; rfl, hq1.trans (hd.below _)⟩
def anyNo (a M : List Nat) (E : List (List Int)) : Bool := E.any fun e => !joinB a (M.getD (e.getD 0 0).toNat 0) (M.getD (e.getD 1 0).toNat 0)
theorem natsI_getD {l : List Nat} {k : Nat} (h : k < l.length) : l.getD k 0 = l[k] := by simp [h]
set_option maxHeartbeats 1000000 in
theorem moClo_any {S S2 SE : Nat → Prop} {b1 b2 u z : Nat} {ev av mv : Value} {a M : List Nat} {w : World} (ht : Tab w) (he : SlI SE w .i64 ev [(u : Int), (z : Int)]) (h1 : w.cell? ⟨b1, 0, none⟩ = some av) (h2 : w.cell? ⟨b2, 0, none⟩ = some mv) (ha : SlI S w .u32 av (natsI a)) (hm : SlI S2 w .u32 mv (natsI M)) (hu : u < M.length) (hz : z < M.length) (hal : ∀ m ∈ a, m < 4294967296) (ha16 : a.length ≤ 16) (hM : ∀ m ∈ M, m < 2 ^ a.length) :
    Calls Tryd.prog 118 #[ev, .pointer (some ⟨b1, 0, none⟩), .pointer (some ⟨b2, 0, none⟩)] w fun e w' => e = .returned (.bool (!joinB a (M.getD u 0) (M.getD z 0))) ∧ Below w.heap.size w w' := by
  have h32 : ∀ m ∈ M, m < 4294967296 := fun m h => Nat.lt_trans (hM m h) (pow16_lt ha16)
  have hjo := fun (W : World) (hb : Below w.heap.size w W) => areJoined_any (ht.below hb (Nat.le_refl _)) (ha.below hb (Nat.le_refl _)) hal ha16 (hM _ (List.getElem_mem hu)) (h32 _ (List.getElem_mem hz))
  obtain ⟨aa, ac, rfl⟩ := ha.slice
  obtain ⟨ea, eb, eo, ecap, rfl, -, hea, hec⟩ := he
  have c0 := hec 0 (by simp)
  have c1 := hec 1 (by simp)
  obtain ⟨rfl, -⟩ := hea (by simp)
  obtain ⟨ma, mb, mo, mcap, rfl, -, hma, hmc⟩ := hm
  have cu := hmc u (by rw [natsI_len]; exact hu)
  have cz := hmc z (by rw [natsI_len]; exact hz)
  rw [natsI_getE _ hu] at cu
  rw [natsI_getE _ hz] at cz
  obtain ⟨rfl, -⟩ := hma (by rw [natsI_len]; omega)
  rw [natsI_getD hu, natsI_getD hz]
  simp only [List.length_cons, List.length_nil, Nat.zero_add, List.getElem_cons_zero, List.getElem_cons_succ, Nat.add_zero] at c0 c1 h1 h2
  rw [natsI_len] at h1 h2 hjo
  simp only [List.length_cons, List.length_nil, natsI_len]
  generalize joinB a M[u] M[z] = bb at *
  generalize M[u] = mu at *
  generalize M[z] = mz at *
  clear hec hea hma hmc
  go_enter Tryd.func118, Tryd.ntmps118
  go_wp2
  refine wp_region_held_drew (S := (fun w' => w'.cell? ⟨b1, 0, none⟩ = some (.slice aa a.length ac) ∧ w'.cell? ⟨b2, 0, none⟩ = some (.slice (some ⟨mb, mo, none⟩) M.length mcap) ∧ w'.cell? ⟨eb, eo, none⟩ = some (.int .i64 (u : Int)) ∧ w'.cell? ⟨eb, eo + 1, none⟩ = some (.int .i64 (z : Int)) ∧ w'.cell? ⟨mb, mo + u, none⟩ = some (.int .u32 (mu : Int)) ∧ w'.cell? ⟨mb, mo + z, none⟩ = some (.int .u32 (mz : Int)))) (by kernel_rfl) ?_ (fun hHeld => ?_)
  · first | exact ⟨‹_›, ‹_›, ‹_›, ‹_›, ‹_›, ‹_›⟩ | assumption | (simp [*, go_sem])
  have hqd : Below w.heap.size w w.drew := (Below.refl _ _).drew
  generalize w.drew = wd at hqd hHeld ⊢
  have hHeld2 := hHeld
  obtain ⟨d0, d1, d2, d3, d4, d5⟩ := hHeld2
  refine wpAnyH_take (i := 0) (v := ?v1) (by simp only [List.getElem?_toArray, List.getElem?_cons_zero]; exact rfl) (by kernel_rfl) (by kernel_rfl) (by kernel_rfl) (by intro _ _ _ h; exact h) (Or.inl ⟨by rfl, ?y1⟩) hHeld ?_
  case y1 => (intro w hSw; (try dsimp only at hSw); go_simp; try (with_reducible rfl))
  try simp only [Act.put, List.setIfInBounds_toArray, List.set_cons_zero, List.set_cons_succ]
  refine wpAnyH_take (i := 1) (v := ?v2) (by simp only [List.getElem?_toArray, List.getElem?_cons_succ, List.getElem?_cons_zero]; exact rfl) (by kernel_rfl) (by kernel_rfl) (by kernel_rfl) (by intro _ _ _ h; exact h) (Or.inl ⟨by rfl, ?y2⟩) hHeld ?_
  case y2 => (intro w hSw; (try dsimp only at hSw); go_simp; try (with_reducible rfl))
  try simp only [Act.put, List.setIfInBounds_toArray, List.set_cons_zero, List.set_cons_succ]
  refine wpAnyH_take (i := 2) (v := ?v3) (by simp only [List.getElem?_toArray, List.getElem?_cons_succ, List.getElem?_cons_zero]; exact rfl) (by kernel_rfl) (by kernel_rfl) (by kernel_rfl) (by intro _ _ _ h; exact h) (Or.inl ⟨by rfl, ?y3⟩) hHeld ?_
  case y3 => (intro w hSw; (try dsimp only at hSw); go_simp; try (with_reducible rfl))
  try simp only [Act.put, List.setIfInBounds_toArray, List.set_cons_zero, List.set_cons_succ]
  refine wpAnyH_take (i := 3) (v := ?v4) (by simp only [List.getElem?_toArray, List.getElem?_cons_succ, List.getElem?_cons_zero]; exact rfl) (by kernel_rfl) (by kernel_rfl) (by kernel_rfl) (by intro _ _ _ h; exact h) (Or.inl ⟨by rfl, ?y4⟩) hHeld ?_
  case y4 => (intro w hSw; (try dsimp only at hSw); go_simp; try (with_reducible rfl))
  try simp only [Act.put, List.setIfInBounds_toArray, List.set_cons_zero, List.set_cons_succ]
  refine wpAnyH_take (i := 4) (v := ?v5) (by simp only [List.getElem?_toArray, List.getElem?_cons_succ, List.getElem?_cons_zero]; exact rfl) (by kernel_rfl) (by kernel_rfl) (by kernel_rfl) (by intro _ _ _ h; exact h) (Or.inl ⟨by rfl, ?y5⟩) hHeld ?_
  case y5 => (intro w hSw; (try dsimp only at hSw); go_simp; try (with_reducible rfl))
  try simp only [Act.put, List.setIfInBounds_toArray, List.set_cons_zero, List.set_cons_succ]
  refine wpAnyH_take (i := 5) (v := ?v6) (by simp only [List.getElem?_toArray, List.getElem?_cons_succ, List.getElem?_cons_zero]; exact rfl) (by kernel_rfl) (by kernel_rfl) (by kernel_rfl) (by intro _ _ _ h; exact h) (Or.inl ⟨by rfl, ?y6⟩) hHeld ?_
  case y6 => (intro w hSw; (try dsimp only at hSw); go_simp; try (with_reducible rfl))
  try simp only [Act.put, List.setIfInBounds_toArray, List.set_cons_zero, List.set_cons_succ]
  refine wpAnyH_take (i := 6) (v := ?v7) (by simp only [List.getElem?_toArray, List.getElem?_cons_succ, List.getElem?_cons_zero]; exact rfl) (by kernel_rfl) (by kernel_rfl) (by kernel_rfl) (by intro _ _ _ h; exact h) (Or.inl ⟨by rfl, ?y7⟩) hHeld ?_
  case y7 => (intro w hSw; (try dsimp only at hSw); go_simp; try (with_reducible rfl))
  try simp only [Act.put, List.setIfInBounds_toArray, List.set_cons_zero, List.set_cons_succ]
  refine wpAnyH_take (i := 7) (v := ?v8) (by simp only [List.getElem?_toArray, List.getElem?_cons_succ, List.getElem?_cons_zero]; exact rfl) (by kernel_rfl) (by kernel_rfl) (by kernel_rfl) (by intro _ _ _ h; exact h) (Or.inl ⟨by rfl, ?y8⟩) hHeld ?_
  case y8 => (intro w hSw; (try dsimp only at hSw); go_simp; try (with_reducible rfl))
  try simp only [Act.put, List.setIfInBounds_toArray, List.set_cons_zero, List.set_cons_succ]
  refine wpAnyH_take (i := 8) (v := ?v9) (by simp only [List.getElem?_toArray, List.getElem?_cons_succ, List.getElem?_cons_zero]; exact rfl) (by kernel_rfl) (by kernel_rfl) (by kernel_rfl) (by intro _ _ _ h; exact h) (Or.inl ⟨by rfl, ?y9⟩) hHeld ?_
  case y9 => (intro w hSw; (try dsimp only at hSw); go_simp; try (with_reducible rfl))
  try simp only [Act.put, List.setIfInBounds_toArray, List.set_cons_zero, List.set_cons_succ]
  refine wpAnyH_take (i := 9) (v := ?v10) (by simp only [List.getElem?_toArray, List.getElem?_cons_succ, List.getElem?_cons_zero]; exact rfl) (by kernel_rfl) (by kernel_rfl) (by kernel_rfl) (by intro _ _ _ h; exact h) (Or.inl ⟨by rfl, ?y10⟩) hHeld ?_
  case y10 => (intro w hSw; (try dsimp only at hSw); go_simp; try (with_reducible rfl))
  try simp only [Act.put, List.setIfInBounds_toArray, List.set_cons_zero, List.set_cons_succ]
  refine wpAnyH_take (i := 10) (v := ?v11) (by simp only [List.getElem?_toArray, List.getElem?_cons_succ, List.getElem?_cons_zero]; exact rfl) (by kernel_rfl) (by kernel_rfl) (by kernel_rfl) (by intro _ _ _ h; exact h) (Or.inl ⟨by rfl, ?y11⟩) hHeld ?_
  case y11 => (intro w hSw; (try dsimp only at hSw); go_simp; try (with_reducible rfl))
  try simp only [Act.put, List.setIfInBounds_toArray, List.set_cons_zero, List.set_cons_succ]
  refine wpAnyH_take (i := 11) (v := ?v12) (by simp only [List.getElem?_toArray, List.getElem?_cons_succ, List.getElem?_cons_zero]; exact rfl) (by kernel_rfl) (by kernel_rfl) (by kernel_rfl) (by intro _ _ _ h; exact h) (Or.inl ⟨by rfl, ?y12⟩) hHeld ?_
  case y12 => (intro w hSw; (try dsimp only at hSw); go_simp; try (with_reducible rfl))
  try simp only [Act.put, List.setIfInBounds_toArray, List.set_cons_zero, List.set_cons_succ]
  refine wpAnyH_take (i := 12) (v := ?v13) (by simp only [List.getElem?_toArray, List.getElem?_cons_succ, List.getElem?_cons_zero]; exact rfl) (by kernel_rfl) (by kernel_rfl) (by kernel_rfl) (by intro _ _ _ h; exact h) (Or.inl ⟨by rfl, ?y13⟩) hHeld ?_
  case y13 => (intro w hSw; (try dsimp only at hSw); go_simp; try (with_reducible rfl))
  try simp only [Act.put, List.setIfInBounds_toArray, List.set_cons_zero, List.set_cons_succ]
  refine wpAnyH_ready (rs := [13]) (by kernel_rfl) (by simp) ?_
  refine AllReadyH.cons (by simp only [List.getElem?_toArray, List.getElem?_cons_succ, List.getElem?_cons_zero]; exact rfl) (fun K hK => ?_) AllReadyH.nil
  go_simp
  refine (hjo _ hqd).mono ?_
  rintro e wn ⟨rfl, hbn⟩
  have hqd := hqd.trans (hbn.mono hqd.size)
  have d0 := (hbn.cell (cell_lt d0)).trans d0
  have d1 := (hbn.cell (cell_lt d1)).trans d1
  have d2 := (hbn.cell (cell_lt d2)).trans d2
  have d3 := (hbn.cell (cell_lt d3)).trans d3
  have d4 := (hbn.cell (cell_lt d4)).trans d4
  have d5 := (hbn.cell (cell_lt d5)).trans d5
  try dsimp only
  refine hK.out _ _ ?h15 (fun hHeld => ?_)
  case h15 => first | exact ⟨‹_›, ‹_›, ‹_›, ‹_›, ‹_›, ‹_›⟩ | assumption | (simp [*, go_sem])
  clear hK K
  try simp only [Act.put, List.setIfInBounds_toArray, List.set_cons_zero, List.set_cons_succ]
  refine wpAnyH_take (i := 14) (v := ?v16) (by simp only [List.getElem?_toArray, List.getElem?_cons_succ, List.getElem?_cons_zero]; exact rfl) (by kernel_rfl) (by kernel_rfl) (by kernel_rfl) (by intro _ _ _ h; exact h) (Or.inl ⟨by rfl, ?y16⟩) hHeld ?_
  case y16 => (intro w hSw; (try dsimp only at hSw); go_simp; try (with_reducible rfl))
  try simp only [Act.put, List.setIfInBounds_toArray, List.set_cons_zero, List.set_cons_succ]
  refine wpAnyH_take (i := 15) (v := ?v17) (by simp only [List.getElem?_toArray, List.getElem?_cons_succ, List.getElem?_cons_zero]; exact rfl) (by kernel_rfl) (by kernel_rfl) (by kernel_rfl) (by intro _ _ _ h; exact h) (Or.inl ⟨by rfl, ?y17⟩) hHeld ?_
  case y17 => (intro w hSw; (try dsimp only at hSw); go_simp; try (with_reducible rfl))
  try simp only [Act.put, List.setIfInBounds_toArray, List.set_cons_zero, List.set_cons_succ]
  refine wpAnyH_done (by kernel_rfl) ?_ _
  go_wp2
  go_ret
  exact ⟨rfl, hqd⟩
set_option maxRecDepth 100000 in
set_option maxHeartbeats 2000000 in
theorem moIndex_any {S S1 S2 : Nat → Prop} {b1 b2 : Nat} {v av mv : Value} {a M : List Nat} {E : List (List Int)} {w : World} (ht : Tab w) (hE : SlR S w v E) (h1 : w.cell? ⟨b1, 0, none⟩ = some av) (h2 : w.cell? ⟨b2, 0, none⟩ = some mv) (ha : SlI S1 w .u32 av (natsI a)) (hm : SlI S2 w .u32 mv (natsI M)) (hP : ∀ k (hk : k < E.length), ∃ u z : Nat, E[k] = [(u : Int), (z : Int)] ∧ u < M.length ∧ z < M.length) (hal : ∀ m ∈ a, m < 4294967296) (ha16 : a.length ≤ 16) (hM : ∀ m ∈ M, m < 2 ^ a.length) (hlE : E.length ≤ 1048576) :
    Calls Tryd.prog 151 #[v, .func (Fn.func 118) #[] #[.pointer (some ⟨b1, 0, none⟩), .pointer (some ⟨b2, 0, none⟩)]] w (IdxB (anyNo a M E) w) := by
  obtain ⟨va, vb, vo, vcap, vf, rfl, hl, hva, hvc⟩ := hE
  have HP := Lib.hid hP; clear hP
  go_enter Tryd.func151, Tryd.ntmps151
  go_wp2
  go_loopw [8] (fun i wr => ∃ k : Nat, k ≤ E.length ∧ i = .int .i64 k ∧ RowKit.Hid (∀ e ∈ E.take k, ¬ (!joinB a (M.getD (e.getD 0 0).toNat 0) (M.getD (e.getD 1 0).toNat 0)) = true) ∧ Below w.heap.size w wr) (fun i _ => E.length - (intOf i).toNat)
  case atStart => exact ⟨0, Nat.zero_le _, rfl, Lib.hid (fun x h => by simp at h), Below.refl _ _⟩
  case round =>
    obtain ⟨k, hk, rfl, HN, hq⟩ := hrel
    by_cases hlt : k < E.length
    · obtain ⟨rfl, -⟩ := hva (by omega)
      obtain ⟨hcell, hrow⟩ := hvc k hlt
      obtain ⟨u, z, hek, hu, hz⟩ := HP.out k hlt
      rw [hek] at hrow
      have hcl := moClo_any (ht.below hq (Nat.le_refl _)) (hrow.below hq (Nat.le_refl _)) ((hq.cell (cell_lt h1)).trans h1) ((hq.cell (cell_lt h2)).trans h2) (ha.below hq (Nat.le_refl _)) (hm.below hq (Nat.le_refl _)) hu hz hal ha16 hM
      obtain ⟨ra, rc, hre⟩ := hrow.slice
      rw [hre] at hcell hcl
      have hcell3 := (hq.cell (cell_lt hcell)).trans hcell
      have htk : E.take (k + 1) = E.take k ++ [E[k]] := List.take_succ_eq_append_getElem hlt
      have hmem : E[k] ∈ E := List.getElem_mem hlt
      have hte : (!joinB a (M.getD (E[k].getD 0 0).toNat 0) (M.getD (E[k].getD 1 0).toNat 0)) = (!joinB a (M.getD u 0) (M.getD z 0)) := by
        rw [hek]; simp only [List.getD_cons_zero, List.getD_cons_succ, Int.toNat_natCast]
      rw [← hte] at hcl
      have HBX := Lib.hid (show ∀ bx, bx = (!joinB a (M.getD (E[k].getD 0 0).toNat 0) (M.getD (E[k].getD 1 0).toNat 0)) → (bx = true → anyNo a M E = true) ∧ (bx = false → ∀ e ∈ E.take (k + 1), ¬ (!joinB a (M.getD (e.getD 0 0).toNat 0) (M.getD (e.getD 1 0).toNat 0)) = true) from fun bx hbx => ⟨fun h => List.any_eq_true.2 ⟨E[k], hmem, by rw [← hbx]; exact h⟩, fun h x hx => by
        rw [htk, List.mem_append, List.mem_singleton] at hx
        rcases hx with hx | rfl
        · exact HN.out x hx
        · rw [← hbx, h]; simp⟩)
      clear hte htk hmem hrow hre hek hcell hvc
      generalize hbx : (!joinB a (M.getD (E[k].getD 0 0).toNat 0) (M.getD (E[k].getD 1 0).toNat 0)) = bx at *
      simp only [List.length_cons, List.length_nil] at hcell3 hcl
      cases bx with
      | true =>
        have HA := Lib.hid ((HBX.out true rfl).1 rfl)
        clear HBX
        go_wp2_with fail
        refine hcl.mono ?_
        rintro e w' ⟨rfl, hd⟩
        go_wp2
        go_ret
        exact ⟨(k : Int), rfl, fun _ => by omega, (fun h => by rw [HA.out] at h; cases h), hq.trans (hd.mono hq.size)⟩
      | false =>
        have HA := Lib.hid ((HBX.out false rfl).2 rfl)
        clear HBX
        go_wp2_with fail
        refine hcl.mono ?_
        rintro e w' ⟨rfl, hd⟩
        go_wp2
        go_roundw
        case rel => exact ⟨k + 1, by omega, by go_num, HA, hq.trans (hd.mono hq.size)⟩
        case measure => simp [intOf]; omega
    · have HA := Lib.hid (show anyNo a M E = false from List.any_eq_false.2 fun x hx => HN.out x (by rw [List.take_of_length_le (by omega)]; exact hx))
      go_wp2
      go_ret
      exact ⟨-1, rfl, (fun h => by rw [HA.out] at h; cases h), fun _ => by omega, hq⟩
theorem moContains_any {S S1 S2 : Nat → Prop} {b1 b2 : Nat} {v av mv : Value} {a M : List Nat} {E : List (List Int)} {w : World} (ht : Tab w) (hE : SlR S w v E) (h1 : w.cell? ⟨b1, 0, none⟩ = some av) (h2 : w.cell? ⟨b2, 0, none⟩ = some mv) (ha : SlI S1 w .u32 av (natsI a)) (hm : SlI S2 w .u32 mv (natsI M)) (hP : ∀ k (hk : k < E.length), ∃ u z : Nat, E[k] = [(u : Int), (z : Int)] ∧ u < M.length ∧ z < M.length) (hal : ∀ m ∈ a, m < 4294967296) (ha16 : a.length ≤ 16) (hM : ∀ m ∈ M, m < 2 ^ a.length) (hlE : E.length ≤ 1048576) :
    Calls Tryd.prog 117 #[v, .func (Fn.func 118) #[] #[.pointer (some ⟨b1, 0, none⟩), .pointer (some ⟨b2, 0, none⟩)]] w fun e w' => e = .returned (.bool (anyNo a M E)) ∧ Below w.heap.size w w' := by
  have hcl := moIndex_any ht hE h1 h2 ha hm hP hal ha16 hM hlE
  generalize anyNo a M E = bb at *
  go_enter Tryd.func117, Tryd.ntmps117
  go_wp2_with fail
  refine hcl.mono ?_
  rintro e w1 ⟨r, rfl, hr1, hr2, hd⟩
  have hbb : decide ((0 : Int) ≤ r) = bb := by
    cases bb
    · have := hr2 rfl; exact decide_eq_false (by omega)
    · exact decide_eq_true (hr1 rfl)
  clear hr1 hr2
  go_wp2
  go_ret
  exact ⟨by first | rfl | (rw [hbb]) | (simp [hbb]), hd⟩
theorem connected0_any {nv : Value} {a : List Nat} {w : World} {S : Nat → Prop} (hn : SlI S w .u32 nv (natsI a)) : Calls Tryd.prog 116 #[nv, .int .u32 ((0 : Nat) : Int)] w fun e w' => e = .returned (.bool false) ∧ Below w.heap.size w w' := by
  obtain ⟨na, nc, rfl⟩ := hn.slice
  have h0 : (((0 : Nat) : Int) != 0) = false := rfl
  go_enter Tryd.func116, Tryd.ntmps116
  go_wp2
  go_ret
  exact ⟨rfl, Below.refl _ _⟩
theorem connectedB_any {S : Nat → Prop} {nv : Value} {g : List (List Int)} {s : Nat} {w : World} (ht : Tab w) (hg : GOk g) (hn : SlI S w .u32 nv (natsI (netsL g))) (hs : s < 2 ^ g.length) :
    Calls Tryd.prog 116 #[nv, .int .u32 (s : Int)] w fun e w' => e = .returned (.bool (connB g s)) ∧ Below w.heap.size w w' := by
  by_cases h0 : s = 0
  · subst h0
    have : connB g 0 = false := by simp [connB]
    rw [this]
    exact connected0_any hn
  · have h := connected_any ht hn (by rw [netsL_len]; exact hg.hi) (netsL_lt hg) (wi := s) (by rw [netsL_len]; exact hs) h0
    have e : connB g s = decide ((partsN (netsL g) s).length = 1) := by simp [connB, h0]
    rw [e]; exact h
end Go.Proofs.YtklnjpdpinccoaaDoor
