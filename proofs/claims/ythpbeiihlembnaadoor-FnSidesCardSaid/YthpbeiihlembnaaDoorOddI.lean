/- OddLoop of the program. -/
import Derived.Test.YthpbeiihlembnaaDoorOddM
import Derived.Test.YthpbeiihlembnaaDoorForest
import Derived.Test.YthpbeiihlembnaaDoorLeast1
import Derived.Test.YthpbeiihlembnaaDoorOddS
namespace Go.Proofs.YthpbeiihlembnaaDoor
open Go.RowKit
theorem parts_from {a : List Nat} {wi : Nat} (hw : wi < 4294967296) (hs : SymN a wi) : ∀ p ∈ partsN a wi, ∃ r, wi.testBit r = true ∧ p = reachN a wi r := by
  have key : ∀ k, ∃ out D, PartsI a wi out D ∧ (∀ p ∈ out, ∃ r, wi.testBit r = true ∧ p = reachN a wi r) ∧ ∀ i, i < k → wi.testBit i = true → D.testBit i = true := by
    intro k
    induction k with
    | zero => exact ⟨[], 0, PartsI.start hw, (fun i hi => by cases hi), fun i hi => by omega⟩
    | succ k ih =>
      obtain ⟨out, D, h1, h2, h3⟩ := ih
      by_cases hk : wi.testBit k = true ∧ D.testBit k = false
      · refine ⟨_, _, h1.next hw hs hk.1 hk.2 (fun i hi hlt => h3 i hlt hi), fun p hp => ?_, fun i hi hwi => ?_⟩
        · rcases List.mem_append.1 hp with hp | hp
          · exact h2 p hp
          · exact ⟨k, hk.1, by simpa using hp⟩
        · rw [Nat.testBit_or, Bool.or_eq_true]
          by_cases e : i = k
          · subst e
            exact .inr (reach_start hw (bit_lt_of (n := 32) hw hwi))
          · exact .inl (h3 i (by omega) hwi)
      · refine ⟨out, D, h1, h2, fun i hi hwi => ?_⟩
        by_cases e : i = k
        · subst e
          cases hD : D.testBit i
          · exact absurd ⟨hwi, hD⟩ hk
          · rfl
        · exact h3 i (by omega) hwi
  obtain ⟨out, D, h1, h2, h3⟩ := key 32
  have hall : ∀ i, wi.testBit i = true → D.testBit i = true := fun i hi => h3 i (bit_lt_of (n := 32) hw hi) hi
  have he := h1.done hw hall
  subst he
  exact h2
/-- A part is one part of itself. -/
theorem reach_self {a : List Nat} {wi r c : Nat} (hw : wi < 4294967296) (hs : SymN a wi) (hr : wi.testBit r = true) (hc : (reachN a wi r).testBit c = true) : reachN a (reachN a wi r) c = reachN a wi r := by
  have hp := reachN_lt a wi r
  have hr32 := bit_lt_of (n := 32) hw hr
  have hc32 := bit_lt_of (n := 32) hp hc
  have he := reach_eq hw hs hr hc
  apply nat_ext
  intro i
  rw [Bool.eq_iff_iff]
  refine ⟨reach_sub hp hc, fun hi => ?_⟩
  rw [← he] at hi
  refine reach_least hw hc32 (M := reachN a (reachN a wi r) c) (fun x hx u hu hb => ?_) (reach_start hp hc32) hi
  have hxp := reach_sub hp hc hx
  have hup := reach_closed hw hr32 x hxp u hu hb
  exact reach_closed hp hc32 x hx u hup hb
theorem isD_exists (nb : Nat → Nat → Prop) (N s : Nat) : ∃ D, IsD nb N s D := by
  have h : ∀ y, ∃ d : Int, (d = -1 ∧ ∀ k, ¬ Wk nb s k y) ∨ ∃ k : Nat, d = k ∧ Wk nb s k y ∧ ∀ j, j < k → ¬ Wk nb s j y := fun y => by
    by_cases hy : ∃ k, Wk nb s k y
    · obtain ⟨k, h1, h2⟩ := least_nat hy
      exact ⟨k, .inr ⟨k, rfl, h1, h2⟩⟩
    · exact ⟨-1, .inl ⟨rfl, fun k hk => hy ⟨k, hk⟩⟩⟩
  exact ⟨fun y => Classical.choose (h y), fun y _ => Classical.choose_spec (h y)⟩
theorem par_walk {H : List Nat} {p r n : Nat} {D : Nat → Int} (hI : DistI H p r n) (hD : IsDist H p r n D) (hs : ∀ x y, x < n → y < n → (H.getD x 0).testBit y = true → (H.getD y 0).testBit x = true) :
    ∀ (k y : Nat), y < n → D y = (k : Int) → Wk (nbO H) (2 * r) k (2 * y + k % 2)
  | 0, y, hy, e => by
    have := dist_zero hD hy (by simpa using e)
    subst this; rfl
  | k + 1, y, hy, e => by
    obtain ⟨x, hx, hb, hk⟩ := dist_prev hI hD hs hy e
    refine ⟨_, par_walk hI hD hs k x hx hk, ?_, ?_⟩
    · rw [show (2 * x + k % 2) / 2 = x by omega, show (2 * y + (k + 1) % 2) / 2 = y by omega]
      exact hs y x hy hx hb
    · omega
theorem par_back {H : List Nat} {p r n : Nat} {D : Nat → Int} (hI : DistI H p r n) (hD : IsDist H p r n D) (hs : ∀ x y, x < n → y < n → (H.getD x 0).testBit y = true → (H.getD y 0).testBit x = true) :
    ∀ (k y m q : Nat), q < 2 → y < n → D y = (k : Int) → Wk (nbO H) (2 * r) m (2 * y + q) → ∃ m', Wk (nbO H) (2 * r) m' (2 * r + (q + k) % 2)
  | 0, y, m, q, hq, hy, e, hw => by
    have := dist_zero hD hy (by simpa using e)
    subst this
    refine ⟨m, ?_⟩
    rwa [show (q + 0) % 2 = q by omega]
  | k + 1, y, m, q, hq, hy, e, hw => by
    obtain ⟨x, hx, hb, hk⟩ := dist_prev hI hD hs hy e
    have h1 : Wk (nbO H) (2 * r) (m + 1) (2 * x + (1 - q)) := ⟨_, hw, by
      rw [show (2 * y + q) / 2 = y by omega, show (2 * x + (1 - q)) / 2 = x by omega]
      exact hb, by omega⟩
    obtain ⟨m', h2⟩ := par_back hI hD hs k x (m + 1) (1 - q) (by omega) hx hk h1
    refine ⟨m', ?_⟩
    rwa [show (q + (k + 1)) % 2 = (1 - q + k) % 2 by omega]
theorem odd_exists {H : List Nat} {p r n u v ku kv : Nat} {D : Nat → Int} (hI : DistI H p r n) (hD : IsDist H p r n D) (hs : ∀ x y, x < n → y < n → (H.getD x 0).testBit y = true → (H.getD y 0).testBit x = true) (hl : ∀ u, H.getD u 0 < 4294967296) (hn : ∀ x y, x < n → (H.getD x 0).testBit y = true → y < n)
    (hu : u < n) (hv : v < n) (hb : (H.getD u 0).testBit v = true) (eu : D u = (ku : Int)) (ev : D v = (kv : Int)) (hp : ku % 2 = kv % 2) : ∃ q, CW H n q := by
  have h1 := par_walk hI hD hs ku u hu eu
  have h2 : Wk (nbO H) (2 * r) (ku + 1) (2 * v + (1 - ku % 2)) := ⟨_, h1, by
    rw [show (2 * u + ku % 2) / 2 = u by omega, show (2 * v + (1 - ku % 2)) / 2 = v by omega]
    exact hb, by omega⟩
  obtain ⟨m', h3⟩ := par_back hI hD hs kv v (ku + 1) (1 - ku % 2) (by omega) hv ev h2
  rw [show (1 - ku % 2 + kv) % 2 = 1 by omega] at h3
  obtain ⟨D2, hD2⟩ := isD_exists (nbO H) (2 * n) (2 * r)
  have hr := hI.v
  have hO : OI H n r D2 := ⟨hl, hn, hs, hr, hD2⟩
  have h4 := isD_has hD2 (y := 2 * r + 1) (by omega) h3
  obtain ⟨L, hL⟩ : ∃ L : Nat, D2 (2 * r + 1) = (L : Int) := ⟨(D2 (2 * r + 1)).toNat, by omega⟩
  have hL0 : 0 < L := by
    apply Classical.byContradiction
    intro hc
    have := isD_wk hD2 (k := 0) (y := 2 * r + 1) (by omega) (by omega)
    have : 2 * r + 1 = 2 * r := this
    omega
  exact ⟨_, (odd_cw hO hL hL0).1⟩
def Z1 (C : Nat → Int) : Prop := ∀ y, C y = 0 ∨ C y = 1
/-- The parts so far have the parity of their distances. -/
def SideI (H : List Nat) (n wi k : Nat) (C : Nat → Int) : Prop := ∀ y, y < n → reachN H wi y ∈ (partsN H wi).take k → ∀ D, IsDist H (reachN H wi y) (Lib.ctz 32 (reachN H wi y)) n D → 0 ≤ D y ∧ C y = D y % 2
theorem SideI.zero {H : List Nat} {n wi : Nat} {C : Nat → Int} : SideI H n wi 0 C := fun y _ h => by simp at h
theorem part_dist {H : List Nat} {n wi r : Nat} (hW : WideI H n) (hw : wi < 2 ^ n) (hs : SymN H wi) (hr : wi.testBit r = true) : DistI H (reachN H wi r) (Lib.ctz 32 (reachN H wi r)) n ∧ (reachN H wi r).testBit (Lib.ctz 32 (reachN H wi r)) = true := by
  have hw32 := Nat.lt_trans hw (pow16_lt hW.le)
  have hr32 := bit_lt_of (n := 32) hw32 hr
  have hp := reachN_lt H wi r
  have hne : reachN H wi r ≠ 0 := fun e => by have := reach_start (a := H) hw32 hr32; rw [e, Nat.zero_testBit] at this; cases this
  have hc := ctz_bit hne hp
  have hpn : reachN H wi r < 2 ^ n := lt_bits fun i hi => bit_lt_of hw (reach_sub hw32 hr hi)
  exact ⟨⟨hW, hpn, bit_lt_of hpn hc⟩, hc⟩
theorem SideI.next {H : List Nat} {n wi k : Nat} {C C' D' : Nat → Int} (hW : WideI H n) (hw : wi < 2 ^ n) (hall : ∀ y, y < n → wi.testBit y = true) (hs : SymN H wi) (h : SideI H n wi k C) (hk : k < (partsN H wi).length)
    (hD : IsDist H (partsN H wi)[k] (Lib.ctz 32 (partsN H wi)[k]) n D') (hC : ∀ y, y < n → C' y = if 0 ≤ D' y then D' y % 2 else C y) : SideI H n wi (k + 1) C' := fun y hy hm D hDy => by
  have hw32 := Nat.lt_trans hw (pow16_lt hW.le)
  obtain ⟨r', hr', he⟩ := parts_from hw32 hs _ (List.getElem_mem hk)
  rw [he] at hD
  obtain ⟨hI', hc'⟩ := part_dist hW hw hs hr'
  have hball := reach_ball hI' hD hc' y
  rw [reach_self hw32 hs hr' hc'] at hball
  have hyw := hall y hy
  have hyy := reach_start (a := H) hw32 (bit_lt_of (n := 32) hw32 hyw)
  rw [List.take_succ_eq_append_getElem hk, List.mem_append] at hm
  by_cases e : reachN H wi y = reachN H wi r'
  · rw [e] at hDy hyy
    have h1 := (hball.1 hyy).2
    have h2 := hDy.unique hD hy
    rw [h2, hC y hy, if_pos h1]
    exact ⟨h1, rfl⟩
  · have hno : ¬ 0 ≤ D' y := fun h0 => e (reach_eq hw32 hs hr' (hball.2 ⟨hy, h0⟩))
    rcases hm with hm | hm
    · rw [hC y hy, if_neg hno]
      exact h y hy hm D hDy
    · rw [List.mem_singleton, he] at hm
      exact absurd hm e
theorem SideI.all {H : List Nat} {n wi : Nat} {C : Nat → Int} (hW : WideI H n) (hw : wi < 2 ^ n) (hall : ∀ y, y < n → wi.testBit y = true) (hs : SymN H wi) (h : SideI H n wi (partsN H wi).length C) {u v : Nat} (hu : u < n) (hv : v < n) (hb : (H.getD u 0).testBit v = true)
    (e : C u = C v) : ∃ q, CW H n q := by
  have hw32 := Nat.lt_trans hw (pow16_lt hW.le)
  have hsn : ∀ x y, x < n → y < n → (H.getD x 0).testBit y = true → (H.getD y 0).testBit x = true := fun x y hx hy => hs x y (hall x hx) (hall y hy)
  have hu32 := bit_lt_of (n := 32) hw32 (hall u hu)
  have huv : (reachN H wi u).testBit v = true := reach_closed hw32 hu32 u (reach_start hw32 hu32) v (hall v hv) hb
  have he : reachN H wi v = reachN H wi u := reach_eq hw32 hs (hall u hu) huv
  obtain ⟨p, hp, hpu, r, hr, hpr⟩ := parts_all hw32 hs u (hall u hu)
  subst hpr
  have hru : reachN H wi u = reachN H wi r := reach_eq hw32 hs hr hpu
  obtain ⟨D, hD⟩ := dist_exists H (reachN H wi u) (Lib.ctz 32 (reachN H wi u)) n
  have h1 := h u hu (by rw [List.take_length, hru]; exact hp) D hD
  have h2 := h v hv (by rw [List.take_length, he, hru]; exact hp) D (by rw [he]; exact hD)
  obtain ⟨hI, -⟩ := part_dist hW hw hs (hall u hu)
  refine odd_exists (ku := (D u).toNat) (kv := (D v).toNat) hI hD hsn (fun x => ?_) (fun x y hx hb => ?_) hu hv hb (by omega) (by omega) (by omega)
  · exact Nat.lt_trans (getD_ltN hW.lt x) (pow16_lt hW.le)
  · exact bit_lt_of (n := n) (getD_ltN hW.lt x) hb
/-- Two sides: no edge lies in one. -/
def TwoSides (H : List Nat) (n : Nat) (C : Nat → Int) : Prop := ∀ x y, x < n → y < n → (H.getD x 0).testBit y = true → C x ≠ C y
theorem two_no_odd {H : List Nat} {n : Nat} {C : Nat → Int} (hz : Z1 C) (h : TwoSides H n C) : ∀ q, ¬ CW H n q := fun q hq => by
  have hp : 0 < q.length := by have := hq.odd; omega
  have alt : ∀ i, i < q.length → C (q.getD i 0) = (C (q.getD 0 0) + i) % 2 := by
    intro i
    induction i with
    | zero => intro h0; have := hz (q.getD 0 0); omega
    | succ i ih =>
      intro hi
      have h1 := ih (by omega)
      have h2 := h _ _ (hq.lt i (by omega)) (hq.lt (i + 1) hi) (hq.ch i hi)
      have h3 := hz (q.getD (i + 1) 0)
      have h4 := hz (q.getD i 0)
      omega
  have hl := alt (q.length - 1) (by omega)
  have hodd := hq.odd
  have h0 := hz (q.getD 0 0)
  have hc := hq.cl
  unfold finN lastN at hc
  exact h _ _ (hq.lt (q.length - 1) (by omega)) (hq.lt 0 hp) hc (by omega)
theorem Z1.put {C C' : Nat → Int} {D : Nat → Int} {k : Nat} (h : Z1 C) (hC : ∀ y, C' y = if k = y then D k % 2 else C y) : Z1 C' := fun y => by
  rw [hC]
  by_cases e : k = y
  · rw [if_pos e]; omega
  · rw [if_neg e]; exact h y
theorem dist_bound {H : List Nat} {wi v n : Nat} {D : Nat → Int} (hI : DistI H wi v n) (h : IsDist H wi v n D) (hH : ∀ u, H.getD u 0 < 4294967296) (hs : ∀ x y, x < n → y < n → (H.getD x 0).testBit y = true → (H.getD y 0).testBit x = true) {u : Nat} (hu : u < n) : D u ≤ n := by
  apply Classical.byContradiction
  intro hc
  obtain ⟨k, hk⟩ : ∃ k : Nat, D u = ((k + 1 : Nat) : Int) := ⟨(D u).toNat - 1, by omega⟩
  have hp := dn_path hI h hH hs k u hu hk
  have := loop_len hp.path
  rw [hp.len] at this
  omega
theorem keptR (w : World) (r : Option Nat) : KeptBut w w r := ⟨rfl, rfl, rfl, Nat.le_refl _, fun _ _ _ => rfl⟩
theorem other_block {w1 w2 : World} {B ob : Nat} (h : Below B w1 w2) (hB : w1.heap.size ≤ B) {w0 : World} (k : KeptBut w0 w1 (some ob)) : KeptBut w0 w2 (some ob) :=
  ⟨h.os.trans k.1, h.tape.trans k.2.1, h.output.trans k.2.2.1, Nat.le_trans k.2.2.2.1 h.size, fun b hb hne => (h.block b (by have := k.2.2.2.1; omega)).trans (k.2.2.2.2 b hb hne)⟩
set_option maxRecDepth 100000 in
set_option maxHeartbeats 8000000 in
theorem sidesI_any {S : Nat → Prop} {v : Value} {g : List (List Int)} {w : World} (ht : Tab w) (hv : SlR S w v g) :
    Calls Tryd.prog 35 #[.agg #[v]] w fun e w' => ∃ x b, e = .returned (.tuple #[x, .bool b]) ∧ (b = true → gokB g = true ∧ ∃ C : Nat → Int, Z1 C ∧ TwoSides (netsL g) g.length C ∧ ∃ ob, w.heap.size ≤ ob ∧ x = .slice (some ⟨ob, 0, none⟩) g.length g.length ∧ Row w' ob g.length (tabV C)) ∧
      (b = false → gokB g = true → ∃ q, CW (netsL g) g.length q) ∧ Below w.heap.size w w' := by
  obtain ⟨va, vc, rfl⟩ := hv.slice
  have hb0 : Below w.heap.size w (w.alloc (.cells #[.slice va g.length vc] 29)) := (Below.refl _ _).alloc (Nat.le_refl _) _
  have hgo := implGraphOk_any _ _ _ (hv.below hb0 (Nat.le_refl _))
  by_cases hgb : gokB g = true
  case neg =>
    have HGB := Lib.hid hgb
    rw [Bool.not_eq_true] at hgb
    rw [hgb] at hgo
    clear hgb
    go_enter Tryd.func35, Tryd.ntmps35
    go_wp2_with fail
    refine hgo.mono ?_
    rintro e w1 ⟨rfl, hb1⟩
    go_wp2
    go_ret2
    exact ⟨_, false, rfl, (fun h => by cases h), (fun _ h => absurd h HGB.out), hb0.trans (hb1.mono hb0.size)⟩
  have hg := gokB_iff.1 hgb
  rw [hgb] at hgo
  have h16 := hg.hi
  have hlo := hg.lo
  have hlen := netsL_len g
  have hN := nets_NetI hg
  have HN := Lib.hid hN
  have hW : WideI (netsL g) g.length := ⟨hlen, h16, by rw [← hlen]; exact hN.lt⟩
  have HW := Lib.hid hW
  have hfl : firstN g.length < 2 ^ g.length := by unfold firstN; have := Nat.two_pow_pos g.length; omega
  have HSY := Lib.hid (show SymN (netsL g) (firstN g.length) from adj_sym hg (wi := firstN g.length) hfl false)
  have HG := Lib.hid hg
  have HGB := Lib.hid hgb
  clear hgb hg hN hW
  have hmk := run_make_row' (P := Tryd.prog) 26 2 (.int .i64 0) 8 elI64.ht elI64.hi rfl .i64 .i64 g.length (by omega) (by omega)
  go_enter Tryd.func35, Tryd.ntmps35
  go_wp2_with fail
  refine hgo.mono ?_
  rintro e w1 ⟨rfl, hb1⟩
  have hq1 := hb0.trans (hb1.mono hb0.size)
  have c1 : w1.cell? ⟨w.heap.size, 0, none⟩ = some (.slice va g.length vc) := (hb1.cell (p := ⟨w.heap.size, 0, none⟩) (by simp)).trans (by simp [go_sem])
  clear hgo hb0 hb1
  go_wp2_with fail
  refine (netsOf_any _ _ _ (hv.below hq1 (Nat.le_refl _)) HG.out).mono ?_
  rintro e w2 ⟨na, rfl, hna, hb2⟩
  have hq2 := hq1.trans (hb2.mono hq1.size)
  have hni := hna.ints (by omega)
  obtain ⟨nb, nc, rfl⟩ := own_some hna (by omega)
  have hqa : Below w2.heap.size w2 (w2.alloc (.cells (madeCells #[Value.int .i64 0] g.length) 2)) := (Below.refl _ _).alloc (Nat.le_refl _) _
  have hr3 : Row (w2.alloc (.cells (madeCells #[Value.int .i64 0] g.length) 2)) w2.heap.size g.length (tabV fun _ => 0) :=
    Row.ofOwn (Own.made w2 w2.heap.size 2 (.int .i64 0) g.length (Nat.le_refl _) (by omega)) (fun i hi => by simp [tabV])
  have hq3 := hq2.trans (hqa.mono hq2.size)
  have hni3 := hni.below hqa (Nat.le_refl _)
  have hob : w.heap.size ≤ w2.heap.size := hq2.size
  have hnbl : nb < w2.heap.size := (hna.lt nb rfl).2
  have hsz3 : (w2.alloc (.cells (madeCells #[Value.int .i64 0] g.length) 2)).heap.size = w2.heap.size + 1 := by simp
  clear hq1 c1 hb2 hni hna hqa
  have hpa := partsOf_any (wi := firstN g.length) (ht.below hq3 (Nat.le_refl _)) hni3 (by rw [hlen]; omega) (fun m hm => by have h1 := HN.out.lt m hm; rw [hlen] at h1; exact Nat.lt_trans h1 (pow16_lt (by omega))) (by rw [hlen]; exact hfl)
  go_wp2_with fail
  refine (allOf_any _ _ _ _ (by omega)).mono ?_
  rintro e w4 ⟨rfl, rfl⟩
  go_wp2_with fail
  refine hpa.mono ?_
  rintro e w4 ⟨pv, rfl, hpv, hb4⟩
  clear hpa hmk
  generalize hw3 : w2.alloc (.cells (madeCells #[Value.int .i64 0] g.length) 2) = w3 at hr3 hq3 hni3 hsz3 hpv hb4
  have hq4 := hq3.trans (hb4.mono hq3.size)
  have hni4 := hni3.below hb4 (Nat.le_refl _)
  have hr4 := hr3.below hb4 (Nat.le_refl _)
  have hs34 := hb4.size
  obtain ⟨PS, hPS⟩ : ∃ PS, PS = partsN (netsL g) (firstN g.length) := ⟨_, rfl⟩
  have hpl := partsN_len (netsL g) (firstN g.length)
  have hpi := (Own.ints (xs := natsI (partsN (netsL g) (firstN g.length))) hpv (by omega)).weak (S' := fun b => w2.heap.size < b) (fun b hb => by have := hpv.ge b hb; omega)
  have HNX := Lib.hid (fun (k : Nat) (C C' D' : Nat → Int) (h : SideI (netsL g) g.length (firstN g.length) k C) => SideI.next (C' := C') (D' := D') HW.out hfl (fun y hy => first_bit hy) HSY.out h)
  have HALL := Lib.hid (fun (C : Nat → Int) (u v : Nat) (h : SideI (netsL g) g.length (firstN g.length) (partsN (netsL g) (firstN g.length)).length C) => SideI.all HW.out hfl (fun y hy => first_bit hy) HSY.out h (u := u) (v := v))
  have HFROM := Lib.hid (fun p (hp : p ∈ partsN (netsL g) (firstN g.length)) => parts_from (Nat.lt_trans hfl (pow16_lt h16)) HSY.out p hp)
  rw [← hPS] at hpi hpv hpl HNX HALL HFROM
  clear hPS
  generalize hob2 : w2.heap.size = ob at *
  obtain ⟨pva, pvc, rfl⟩ := hpv.isSlice
  obtain ⟨pb, po, pcap, hpe, hpc⟩ := hpi.at_
  have hpS : ∀ b, (Value.slice pva PS.length pvc).ownBlock = some b → ob < b := fun b hb => by have := hpv.ge b hb; omega
  have HPC := Lib.hid hpc
  have HC0 := Lib.hid (show SideI (netsL g) g.length (firstN g.length) 0 (fun _ => 0) ∧ Z1 (fun _ => 0) from ⟨SideI.zero, fun _ => .inl rfl⟩)
  have hgl := HG.out.lo
  have ht4 := ht.below hq4 (Nat.le_refl _)
  have htab : ∀ wr, KeptBut w4 wr (some ob) → Tab wr := fun wr hk i hi => (World.cell?_of_block (a := ⟨0, i, none⟩) (hk.2.2.2.2 0 (by have := cell_lt (ht4 i hi); simpa using this) (fun e => by simp at e; have := cell_lt (ht i hi); simp at this; omega))).trans (ht4 i hi)
  have hnets : ∀ wr, KeptBut w4 wr (some ob) → SlI (fun b => nb = b) wr .u32 (.slice (some ⟨nb, 0, none⟩) g.length nc) (natsI (netsL g)) := fun wr hk => (hni4.keep fun b hb => hk.2.2.2.2 b (by simp [Value.ownBlock] at hb; omega) (fun e => by simp [Value.ownBlock] at hb; simp at e; omega)).weak fun b hb => by simpa [Value.ownBlock] using hb
  have hbelow : ∀ wr, KeptBut w4 wr (some ob) → Below w.heap.size w wr := fun wr hk => hk.below hq4 (by omega) (fun k h => by simp at h; omega)
  clear hpc hpi hpv hni3 hr3 hq3 hb4 hni4
  have HHB := Lib.hid hbelow
  have HNT := Lib.hid hnets
  have HTB := Lib.hid htab
  clear hbelow hnets htab
  go_wp2
  go_loopw [27] (fun iv wr => ∃ (k : Nat) (C : Nat → Int), k ≤ PS.length ∧ iv = .int .i64 k ∧ RowKit.Hid (SideI (netsL g) g.length (firstN g.length) k C ∧ Z1 C) ∧ Row wr ob g.length (tabV C) ∧ KeptBut w4 wr (some ob)) (fun iv _ => PS.length - (RowKit.intOf iv).toNat)
  case atStart => exact ⟨0, _, Nat.zero_le _, rfl, HC0, hr4, keptR _ _⟩
  case round =>
    clear HC0 hr4
    obtain ⟨k, C, hk, rfl, HC, hrow, hkb⟩ := hrel
    by_cases hlt : k < PS.length
    case neg =>
      obtain rfl : k = PS.length := by omega
      clear HNX HFROM HPC
      have hq5 := HHB.out _ hkb
      have hnt5 := HNT.out _ hkb
      have ht5 := HTB.out _ hkb
      obtain ⟨HC1, HC2⟩ := HC.out
      have HZ := Lib.hid HC2
      have HAC := Lib.hid (fun u v => HALL.out C u v HC1)
      obtain ⟨w5, rfl⟩ : ∃ w5 : World, w5 = wr := ⟨_, rfl⟩
      obtain ⟨nb', no, ncap, hne, hncell⟩ := hnt5.at_
      have hne := hne (by rw [natsI_len, hlen]; omega)
      simp only [Value.slice.injEq, Option.some.injEq, Addr.mk.injEq, and_true] at hne
      obtain ⟨⟨rfl, rfl⟩, -, rfl⟩ := hne
      have HNC := Lib.hid hncell
      have HT0 := Lib.hid (show ∀ x y, x < 0 → y < g.length → ((netsL g).getD x 0).testBit y = true → C x ≠ C y from fun x y h => by omega)
      clear HC HC1 HC2 HALL HHB HNT HTB hncell hnt5
      go_wp2
      go_loopw [53] (fun iv wr => ∃ u : Nat, u ≤ g.length ∧ iv = .int .i64 u ∧ RowKit.Hid (∀ x y, x < u → y < g.length → ((netsL g).getD x 0).testBit y = true → C x ≠ C y) ∧ Below w5.heap.size w5 wr) (fun iv _ => g.length - (RowKit.intOf iv).toNat)
      case atStart => exact ⟨0, Nat.zero_le _, rfl, HT0, Below.refl _ _⟩
      case round =>
        clear HT0
        obtain ⟨u, hu, rfl, HT, hbu⟩ := hrel
        by_cases hul : u < g.length
        case neg =>
          obtain rfl : u = g.length := by omega
          go_wp2
          go_ret2
          exact ⟨_, true, rfl, (fun _ => ⟨HGB.out, C, HZ.out, fun x y hx hy hb => HT.out x y hx hy hb, ob, hob, rfl, hrow.below hbu (Nat.le_refl _)⟩), (fun h => by cases h), hq5.trans (hbu.mono hq5.size)⟩
        have hnu : u < (netsL g).length := by rw [hlen]; exact hul
        have d1 : wr.cell? ⟨nb, 0 + u, none⟩ = some (.int .u32 (((netsL g).getD u 0 : Nat) : Int)) := by
          have h1 := HNC.out u (by rw [natsI_len]; exact hnu)
          rw [natsI_get] at h1
          rw [hbu.cell (cell_lt h1), h1]
          simp [hnu]
        rw [Nat.zero_add] at d1
        have hm2 : (netsL g).getD u 0 < 2 ^ g.length := getD_ltN HW.out.lt u
        have hm32 : (netsL g).getD u 0 < 4294967296 := Nat.lt_trans hm2 (pow16_lt h16)
        have hli := list_any ((netsL g).getD u 0) wr (ht5.below hbu (Nat.le_refl _)) hm32
        have HM := Lib.hid (fun y => mem_bitsN (i := y) hm32)
        have HML := Lib.hid (fun y (h : y ∈ bitsN ((netsL g).getD u 0)) => bit_lt_of hm2 ((mem_bitsN hm32).1 h))
        have HAU := Lib.hid (fun v hv hb => HAC.out u v hul hv hb)
        obtain ⟨m, hm⟩ : ∃ m, m = (netsL g).getD u 0 := ⟨_, rfl⟩
        rw [← hm] at d1 hli HM HML hm32 HAU
        have HMM := Lib.hid hm
        have hrw := hrow.below hbu (Nat.le_refl _)
        clear hm hm2
        go_wp2_with fail
        refine hli.mono ?_
        rintro e w7 ⟨lv, rfl, hlv, hb7⟩
        have hb7w := hbu.trans (hb7.mono hbu.size)
        have hrw7 := hrw.below hb7 (Nat.le_refl _)
        have hbl := bitsI_lenN m
        have hlvi := Own.ints (xs := bitsI m) hlv (by have := bitsI_len m; omega)
        obtain ⟨la, lc, rfl⟩ := hlv.isSlice
        obtain ⟨lb, lo, lcap, hle, hlc⟩ := hlvi.at_
        rw [hbl] at hle ⊢
        have HLC := Lib.hid hlc
        have HBL := Lib.hid hbl
        have hb32 := bitsN_len m
        clear hli hlv hlvi hlc hbl hrw hb7 d1
        go_wp2
        go_loopw [61] (fun iv wr => ∃ j : Nat, j ≤ (bitsN m).length ∧ iv = .int .i64 j ∧ RowKit.Hid (∀ i (h : i < (bitsN m).length), i < j → C u ≠ C (bitsN m)[i]) ∧ Drawn w7 wr) (fun iv _ => (bitsN m).length - (RowKit.intOf iv).toNat)
        case atStart => exact ⟨0, Nat.zero_le _, rfl, Lib.hid (fun i _ h => by omega), Drawn.refl _⟩
        case round =>
          obtain ⟨j, hj, rfl, HJ, hd⟩ := hrel
          by_cases hjl : j < (bitsN m).length
          case neg =>
            obtain rfl : j = (bitsN m).length := by omega
            have HN2 : RowKit.Hid (∀ x y, x < u + 1 → y < g.length → ((netsL g).getD x 0).testBit y = true → C x ≠ C y) := Lib.hid (fun x y hx hy hb => by
              by_cases e : x = u
              · subst e
                rw [← HMM.out] at hb
                obtain ⟨i, hi, rfl⟩ := List.getElem_of_mem ((HM.out y).2 hb)
                exact HJ.out i hi hi
              · exact HT.out x y (by omega) hy hb)
            go_wp2
            go_roundw
            case rel => exact ⟨u + 1, by omega, by go_num, HN2, hb7w.trans (hd.below _)⟩
            case measure => simp [RowKit.intOf]; omega
          have hyl := HML.out _ (List.getElem_mem hjl)
          have hyb := (HM.out _).1 (List.getElem_mem hjl)
          have HJN := Lib.hid (fun (h : C u ≠ C (bitsN m)[j]) => (show ∀ i (h : i < (bitsN m).length), i < j + 1 → C u ≠ C (bitsN m)[i] from fun i hi hij => by
            by_cases e : i = j
            · subst e; exact h
            · exact HJ.out i hi (by omega)))
          have e1 : wr.cell? ⟨lb, lo + j, none⟩ = some (.int .i64 (((bitsN m)[j] : Nat) : Int)) := by
            rw [hd.cell, HLC.out j (by rw [HBL.out]; exact hjl), bitsI_get]
          have e2 : wr.cell? ⟨ob, u, none⟩ = some (.int .i64 (C u)) := (hd.cell _).trans (hrw7 u hul).1
          have e3 : wr.cell? ⟨ob, (bitsN m)[j], none⟩ = some (.int .i64 (C (bitsN m)[j])) := (hd.cell _).trans (hrw7 _ hyl).1
          obtain ⟨rfl⟩ : la = some ⟨lb, lo, none⟩ := by
            have := hle (by omega)
            simpa using (Value.slice.inj this).1
          have hyn : ((bitsN m)[j] : Int) < g.length := by omega
          have HAY := Lib.hid (fun h => HAU.out _ hyl hyb h)
          clear hyb
          generalize (bitsN m)[j] = y at *
          generalize C u = cu at *
          generalize C y = cy at *
          by_cases he : cu = cy
          · have hbe : (cu == cy) = true := by rw [beq_iff_eq]; exact he
            have HF := Lib.hid (HAY.out he)
            clear HJN he
            go_wp2
            go_quiet (fail)
            go_wp2
            go_ret2
            exact ⟨_, false, rfl, (fun h => by cases h), (fun _ _ => HF.out), (hq5.trans (hb7w.mono hq5.size)).trans (((hd.drewN _).below _))⟩
          · have hbe : (cu == cy) = false := by rw [beq_eq_false_iff_ne]; exact he
            have HJ2 := Lib.hid (HJN.out he)
            clear HJN he HAY
            go_wp2
            go_quiet (fail)
            go_wp2
            go_roundw
            case rel => exact ⟨j + 1, by omega, by go_num, HJ2, hd.drewN _⟩
            case measure => simp [RowKit.intOf]; omega
    -- one part
    have hq5 := HHB.out _ hkb
    have hnt5 := HNT.out _ hkb
    have ht5 := HTB.out _ hkb
    obtain ⟨w5, rfl⟩ : ∃ w5 : World, w5 = wr := ⟨_, rfl⟩
    obtain ⟨r, hr, her⟩ := HFROM.out _ (List.getElem_mem hlt)
    have hpd := part_dist HW.out hfl HSY.out hr
    rw [← her] at hpd
    obtain ⟨hDI, hcb⟩ := hpd
    have hp0 : PS[k] ≠ 0 := fun e => by rw [e, Nat.zero_testBit] at hcb; cases hcb
    have hp32 : PS[k] < 4294967296 := Nat.lt_trans hDI.wi (pow16_lt h16)
    have d1 : w5.cell? ⟨pb, po + k, none⟩ = some (.int .u32 (PS[k] : Int)) := by
      have h1 := HPC.out k (by rw [natsI_len]; exact hlt)
      rw [natsI_get] at h1
      rw [World.cell?_of_block (a := ⟨pb, po + k, none⟩) (hkb.2.2.2.2 pb (cell_lt h1) (fun e => by
        simp at e
        have := hpe (by rw [natsI_len]; omega)
        have := hpS pb (by rw [natsI_len] at this; rw [this]; rfl)
        omega)), h1]
    have hpe := hpe (by rw [natsI_len]; omega)
    rw [natsI_len] at hpe
    obtain ⟨rfl⟩ : pva = some ⟨pb, po, none⟩ := by simpa using (Value.slice.inj hpe).1
    have HNXK := Lib.hid (fun C' D' => HNX.out k C C' D' HC.out.1 hlt)
    have hBD := fun D hD u (hu : u < g.length) => dist_bound (D := D) hDI hD (fun x => Nat.lt_trans (getD_ltN HW.out.lt x) (pow16_lt h16)) (fun x y hx hy => HSY.out x y (first_bit hx) (first_bit hy)) hu
    have hls := least_any PS[k] w5 ht5 hp0 hp32
    have hds := distances_any ht5 hDI hnt5
    have HBD := Lib.hid hBD
    clear HFROM HNX her hr hpe hBD hp0 hcb hDI
    generalize PS[k] = p at *
    generalize Lib.ctz 32 p = c at *
    go_wp2_with (go_at_call 100; refine hls.mono ?_; rintro e w' ⟨rfl, rfl⟩)
    refine hds.mono ?_
    rintro e w6 ⟨dob, D, rfl, hdob, hdr, hDD, hb6⟩
    have hk6 := other_block hb6 (Nat.le_refl _) hkb
    have hrow6 := hrow.below hb6 (Nat.le_refl _)
    have hobl : ob < w5.heap.size := hrow.lt (by omega)
    have HD := Lib.hid hDD
    have HDB := Lib.hid (fun u hu => HBD.out D hDD u hu)
    have hrs : Row w6 ob g.length (tabV fun y => if y < 0 ∧ 0 ≤ D y then D y % 2 else C y) := by simpa using hrow6
    clear hls hds hrow hrow6 hb6 hkb hDD HBD hq5 hnt5 ht5
    go_wp2
    go_loopw [37] (fun iv wr => ∃ j : Nat, j ≤ g.length ∧ iv = .int .i64 j ∧ Row wr ob g.length (tabV fun y => if y < j ∧ 0 ≤ D y then D y % 2 else C y) ∧ KeptBut w6 wr (some ob)) (fun iv _ => g.length - (RowKit.intOf iv).toNat)
    case atStart => exact ⟨0, Nat.zero_le _, rfl, hrs, keptR _ _⟩
    case round =>
      clear hrs
      obtain ⟨j, hj, rfl, hrj, hkj⟩ := hrel
      have hkw : KeptBut w4 wr (some ob) := ⟨hkj.1.trans hk6.1, hkj.2.1.trans hk6.2.1, hkj.2.2.1.trans hk6.2.2.1, Nat.le_trans hk6.2.2.2.1 hkj.2.2.2.1, fun b hb hne => (hkj.2.2.2.2 b (Nat.lt_of_lt_of_le hb hk6.2.2.2.1) hne).trans (hk6.2.2.2.2 b hb hne)⟩
      by_cases hjl : j < g.length
      case neg =>
        obtain rfl : j = g.length := by omega
        have HN2 := Lib.hid (show SideI (netsL g) g.length (firstN g.length) (k + 1) (fun y => if y < g.length ∧ 0 ≤ D y then D y % 2 else C y) ∧ Z1 (fun y => if y < g.length ∧ 0 ≤ D y then D y % 2 else C y) from
          ⟨HNXK.out _ D HD.out (fun y hy => by simp [hy]), fun y => by
            show (if y < g.length ∧ 0 ≤ D y then D y % 2 else C y) = 0 ∨ (if y < g.length ∧ 0 ≤ D y then D y % 2 else C y) = 1
            split
            · omega
            · exact HC.out.2 y⟩)
        go_wp2
        go_roundw
        case rel => exact ⟨k + 1, _, by omega, by go_num, HN2, hrj, hkw⟩
        case measure => simp [RowKit.intOf]; omega
      have e1 : wr.cell? ⟨dob, j, none⟩ = some (.int .i64 (D j)) := (World.cell?_of_block (a := ⟨dob, j, none⟩) (hkj.2.2.2.2 dob (hdr.lt (by omega)) (fun e => by simp at e; omega))).trans (hdr j hjl).1
      obtain ⟨f1, f2⟩ := hrj j hjl
      have hDb := HDB.out j hjl
      by_cases h0 : 0 ≤ D j
      · have hset : Row (wr.setCell ⟨ob, j, none⟩ (.int .i64 (D j % 2))) ob g.length (tabV fun y => if y < j + 1 ∧ 0 ≤ D y then D y % 2 else C y) := hrj.set hjl fun i _ => by
          unfold tabV
          by_cases e : j = i
          · subst e; simp [h0]
          · have e2 : i < j + 1 ↔ i < j := by omega
            simp [e, e2]
        have hks : KeptBut w6 (wr.setCell ⟨ob, j, none⟩ (.int .i64 (D j % 2))) (some ob) := ⟨hkj.1, hkj.2.1, hkj.2.2.1, by simpa using hkj.2.2.2.1, fun b hb hne => (Below.heap_setCell _ _ _ _ (by simpa using fun e => hne (by rw [e]))).trans (hkj.2.2.2.2 b hb hne)⟩
        have h2 : Int.tmod (D j) 2 = D j % 2 := Int.tmod_eq_emod_of_nonneg h0
        have hge : decide (0 ≤ D j) = true := by simpa using h0
        clear hrj HNXK HD
        unfold tabV at f1
        generalize D j = x at *
        go_wp2
        go_roundw
        case rel => exact ⟨j + 1, by omega, by go_num, hset, hks⟩
        case measure => simp [RowKit.intOf]; omega
      · have hset : Row wr ob g.length (tabV fun y => if y < j + 1 ∧ 0 ≤ D y then D y % 2 else C y) := fun i hi => by
          have := hrj i hi
          by_cases e : i = j
          · subst e
            simpa [tabV, h0] using this
          · have e2 : i < j + 1 ↔ i < j := by omega
            simpa [tabV, e2] using this
        have hge : decide (0 ≤ D j) = false := by simpa using h0
        clear hrj HNXK HD
        generalize D j = x at *
        go_wp2
        go_roundw
        case rel => exact ⟨j + 1, by omega, by go_num, hset, hkj⟩
        case measure => simp [RowKit.intOf]; omega
theorem gstep_two {H : List Nat} {n : Nat} : GStep H n 2 = OddN H n := by
  funext q
  apply propext
  exact ⟨fun ⟨h, j, e⟩ => ⟨h, by omega⟩, fun ⟨h, e⟩ => ⟨h, (q.length - 3) / 2, by have := h.three; omega⟩⟩
set_option maxRecDepth 100000 in
set_option maxHeartbeats 8000000 in
theorem implOddLoop_any {S : Nat → Prop} {v : Value} {g : List (List Int)} {w : World} (ht : Tab w) (hv : SlR S w v g) :
    Calls Tryd.prog 27 #[.agg #[v]] w fun e w' => ∃ u, e = .returned u ∧ Own w' w.heap.size 2 1 u (natsI (oddF g)).length ((natsI (oddF g)).map (.int .i64)) ∧ Below w.heap.size w w' := by
  obtain ⟨va, vc, rfl⟩ := hv.slice
  have hb0 : Below w.heap.size w (w.alloc (.cells #[.slice va g.length vc] 29)) := (Below.refl _ _).alloc (Nat.le_refl _) _
  have hsd := sidesI_any (ht.below hb0 (Nat.le_refl _)) (hv.below hb0 (Nat.le_refl _))
  have hgo := fun (W : World) (hb : Below w.heap.size w W) => implGraphOk_any _ _ _ (hv.below hb (Nat.le_refl _))
  go_enter Tryd.func27, Tryd.ntmps27
  go_wp2_with fail
  refine hsd.mono ?_
  rintro e w1 ⟨x, b, rfl, hbt, -, hb1⟩
  have hq1 := hb0.trans (hb1.mono hb0.size)
  have c1 : w1.cell? ⟨w.heap.size, 0, none⟩ = some (.slice va g.length vc) := (hb1.cell (p := ⟨w.heap.size, 0, none⟩) (by simp)).trans (by simp [go_sem])
  clear hsd hb0 hb1
  cases b with
  | true =>
    obtain ⟨hgb, C, hz, hc, -⟩ := hbt rfl
    have HE := Lib.hid (show oddF g = [] by rw [oddF, if_pos hgb, pick_none (fun q hq => two_no_odd hz hc q hq.cw)])
    clear hbt hgb hc
    go_wp2
    go_ret
    rw [HE.out]
    exact ⟨_, rfl, by simpa [natsI] using Own.nil w1 w.heap.size 2 1, hq1⟩
  | false =>
    clear hbt
    have hg1 := hgo _ hq1
    by_cases hgb : gokB g = true
    case neg =>
      have HE := Lib.hid (show oddF g = [] by rw [oddF, if_neg hgb])
      rw [Bool.not_eq_true] at hgb
      rw [hgb] at hg1
      clear hgb
      go_wp2_with fail
      refine hg1.mono ?_
      rintro e w2 ⟨rfl, hb2⟩
      go_wp2
      go_ret
      rw [HE.out]
      exact ⟨_, rfl, by simpa [natsI] using Own.nil w2 w.heap.size 2 1, hq1.trans (hb2.mono hq1.size)⟩
    have hg := gokB_iff.1 hgb
    have HE := Lib.hid (show oddF g = pickG (OddN (netsL g) g.length) by rw [oddF, if_pos hgb])
    rw [hgb] at hg1
    have HN := Lib.hid (nets_NetI hg)
    have HG := Lib.hid hg
    have hlen := netsL_len g
    clear hgb hg
    go_wp2_with fail
    refine hg1.mono ?_
    rintro e w2 ⟨rfl, hb2⟩
    have hq2 := hq1.trans (hb2.mono hq1.size)
    have c2 := (hb2.cell (cell_lt c1)).trans c1
    clear c1 hg1 hgo
    go_wp2_with fail
    refine (netsOf_any _ _ _ (hv.below hq2 (Nat.le_refl _)) HG.out).mono ?_
    rintro e w4 ⟨nb, rfl, hnb, hb4⟩
    have hq4 := hq2.trans (hb4.mono hq2.size)
    have hsl := smallestLoop_any (step := 2) (ht.below hq4 (Nat.le_refl _)) HN.out (hnb.ints (by have := HG.out.hi; omega)) (by omega)
    rw [gstep_two, hlen] at hsl
    have hpl := pickG_len (G := OddN (netsL g) g.length) (n := 16) (fun q hq => by have := loop_len hq.1.path; have := HG.out.hi; omega)
    obtain ⟨r, hr⟩ : ∃ r, r = pickG (OddN (netsL g) g.length) := ⟨_, rfl⟩
    rw [← hr] at hsl hpl
    have HRR := Lib.hid hr
    clear hr
    go_wp2_with fail
    refine hsl.mono ?_
    rintro e w5 ⟨u, rfl, hor, hu, hb5⟩
    have hq5 := hq4.trans (hb5.mono hq4.size)
    have hq5s := hq5.size
    clear hsl
    go_wp2_with fail
    refine (loopResult_any hor hu (by omega)).mono ?_
    rintro e w6 ⟨x, rfl, hx, hb6⟩
    go_wp2
    go_ret
    rw [HE.out, ← HRR.out]
    exact ⟨_, rfl, Own.weak hx (by omega), hq5.trans (hb6.mono hq5.size)⟩
end Go.Proofs.YthpbeiihlembnaaDoor
