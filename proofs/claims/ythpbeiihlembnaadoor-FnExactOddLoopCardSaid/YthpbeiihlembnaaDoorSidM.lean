/- Sides by the parity of distances inside parts: plain facts. -/
import Derived.Test.YthpbeiihlembnaaDoorOddM
import Derived.Test.YthpbeiihlembnaaDoorForest
namespace Go.Proofs.YthpbeiihlembnaaDoor
open Go.RowKit
theorem parts_from {a : List Nat} {wi : Nat} (hw : wi < 4294967296) (hs : SymN a wi) : ∀ p ∈ partsN a wi, ∃ r, wi.testBit r = true ∧ p = reachN a wi r := by
  have key : ∀ k, ∃ out D, PartsI a wi out D ∧ (∀ p ∈ out, ∃ r, wi.testBit r = true ∧ p = reachN a wi r) ∧ ∀ i, i < k → wi.testBit i = true → D.testBit i = true := by
    intro k
    induction k with
    | zero => exact ⟨[], 0, PartsI.start hw, (fun i hi => by cases hi), fun i hi => by omega⟩
    | succ k ih =>
      obtain ⟨out, D, h1, h2, h3⟩ := ih
      by_cases hk : wi.testBit k = true ∧ D.testBit k = false
      · refine ⟨_, _, h1.next hw hs hk.1 hk.2 (fun i hi hlt => h3 i hlt hi), fun p hp => ?_, fun i hi hwi => ?_⟩
        · rcases List.mem_append.1 hp with hp | hp
          · exact h2 p hp
          · exact ⟨k, hk.1, by simpa using hp⟩
        · rw [Nat.testBit_or, Bool.or_eq_true]
          by_cases e : i = k
          · subst e
            exact .inr (reach_start hw (bit_lt_of (n := 32) hw hwi))
          · exact .inl (h3 i (by omega) hwi)
      · refine ⟨out, D, h1, h2, fun i hi hwi => ?_⟩
        by_cases e : i = k
        · subst e
          cases hD : D.testBit i
          · exact absurd ⟨hwi, hD⟩ hk
          · rfl
        · exact h3 i (by omega) hwi
  obtain ⟨out, D, h1, h2, h3⟩ := key 32
  have hall : ∀ i, wi.testBit i = true → D.testBit i = true := fun i hi => h3 i (bit_lt_of (n := 32) hw hi) hi
  have he := h1.done hw hall
  subst he
  exact h2
/-- A part is one part of itself. -/
theorem reach_self {a : List Nat} {wi r c : Nat} (hw : wi < 4294967296) (hs : SymN a wi) (hr : wi.testBit r = true) (hc : (reachN a wi r).testBit c = true) : reachN a (reachN a wi r) c = reachN a wi r := by
  have hp := reachN_lt a wi r
  have hr32 := bit_lt_of (n := 32) hw hr
  have hc32 := bit_lt_of (n := 32) hp hc
  have he := reach_eq hw hs hr hc
  apply nat_ext
  intro i
  rw [Bool.eq_iff_iff]
  refine ⟨reach_sub hp hc, fun hi => ?_⟩
  rw [← he] at hi
  refine reach_least hw hc32 (M := reachN a (reachN a wi r) c) (fun x hx u hu hb => ?_) (reach_start hp hc32) hi
  have hxp := reach_sub hp hc hx
  have hup := reach_closed hw hr32 x hxp u hu hb
  exact reach_closed hp hc32 x hx u hup hb
theorem isD_exists (nb : Nat → Nat → Prop) (N s : Nat) : ∃ D, IsD nb N s D := by
  have h : ∀ y, ∃ d : Int, (d = -1 ∧ ∀ k, ¬ Wk nb s k y) ∨ ∃ k : Nat, d = k ∧ Wk nb s k y ∧ ∀ j, j < k → ¬ Wk nb s j y := fun y => by
    by_cases hy : ∃ k, Wk nb s k y
    · obtain ⟨k, h1, h2⟩ := least_nat hy
      exact ⟨k, .inr ⟨k, rfl, h1, h2⟩⟩
    · exact ⟨-1, .inl ⟨rfl, fun k hk => hy ⟨k, hk⟩⟩⟩
  exact ⟨fun y => Classical.choose (h y), fun y _ => Classical.choose_spec (h y)⟩
theorem par_walk {H : List Nat} {p r n : Nat} {D : Nat → Int} (hI : DistI H p r n) (hD : IsDist H p r n D) (hs : ∀ x y, x < n → y < n → (H.getD x 0).testBit y = true → (H.getD y 0).testBit x = true) :
    ∀ (k y : Nat), y < n → D y = (k : Int) → Wk (nbO H) (2 * r) k (2 * y + k % 2)
  | 0, y, hy, e => by
    have := dist_zero hD hy (by simpa using e)
    subst this; rfl
  | k + 1, y, hy, e => by
    obtain ⟨x, hx, hb, hk⟩ := dist_prev hI hD hs hy e
    refine ⟨_, par_walk hI hD hs k x hx hk, ?_, ?_⟩
    · rw [show (2 * x + k % 2) / 2 = x by omega, show (2 * y + (k + 1) % 2) / 2 = y by omega]
      exact hs y x hy hx hb
    · omega
theorem par_back {H : List Nat} {p r n : Nat} {D : Nat → Int} (hI : DistI H p r n) (hD : IsDist H p r n D) (hs : ∀ x y, x < n → y < n → (H.getD x 0).testBit y = true → (H.getD y 0).testBit x = true) :
    ∀ (k y m q : Nat), q < 2 → y < n → D y = (k : Int) → Wk (nbO H) (2 * r) m (2 * y + q) → ∃ m', Wk (nbO H) (2 * r) m' (2 * r + (q + k) % 2)
  | 0, y, m, q, hq, hy, e, hw => by
    have := dist_zero hD hy (by simpa using e)
    subst this
    refine ⟨m, ?_⟩
    rwa [show (q + 0) % 2 = q by omega]
  | k + 1, y, m, q, hq, hy, e, hw => by
    obtain ⟨x, hx, hb, hk⟩ := dist_prev hI hD hs hy e
    have h1 : Wk (nbO H) (2 * r) (m + 1) (2 * x + (1 - q)) := ⟨_, hw, by
      rw [show (2 * y + q) / 2 = y by omega, show (2 * x + (1 - q)) / 2 = x by omega]
      exact hb, by omega⟩
    obtain ⟨m', h2⟩ := par_back hI hD hs k x (m + 1) (1 - q) (by omega) hx hk h1
    refine ⟨m', ?_⟩
    rwa [show (q + (k + 1)) % 2 = (1 - q + k) % 2 by omega]
theorem odd_exists {H : List Nat} {p r n u v ku kv : Nat} {D : Nat → Int} (hI : DistI H p r n) (hD : IsDist H p r n D) (hs : ∀ x y, x < n → y < n → (H.getD x 0).testBit y = true → (H.getD y 0).testBit x = true) (hl : ∀ u, H.getD u 0 < 4294967296) (hn : ∀ x y, x < n → (H.getD x 0).testBit y = true → y < n)
    (hu : u < n) (hv : v < n) (hb : (H.getD u 0).testBit v = true) (eu : D u = (ku : Int)) (ev : D v = (kv : Int)) (hp : ku % 2 = kv % 2) : ∃ q, CW H n q := by
  have h1 := par_walk hI hD hs ku u hu eu
  have h2 : Wk (nbO H) (2 * r) (ku + 1) (2 * v + (1 - ku % 2)) := ⟨_, h1, by
    rw [show (2 * u + ku % 2) / 2 = u by omega, show (2 * v + (1 - ku % 2)) / 2 = v by omega]
    exact hb, by omega⟩
  obtain ⟨m', h3⟩ := par_back hI hD hs kv v (ku + 1) (1 - ku % 2) (by omega) hv ev h2
  rw [show (1 - ku % 2 + kv) % 2 = 1 by omega] at h3
  obtain ⟨D2, hD2⟩ := isD_exists (nbO H) (2 * n) (2 * r)
  have hr := hI.v
  have hO : OI H n r D2 := ⟨hl, hn, hs, hr, hD2⟩
  have h4 := isD_has hD2 (y := 2 * r + 1) (by omega) h3
  obtain ⟨L, hL⟩ : ∃ L : Nat, D2 (2 * r + 1) = (L : Int) := ⟨(D2 (2 * r + 1)).toNat, by omega⟩
  have hL0 : 0 < L := by
    apply Classical.byContradiction
    intro hc
    have := isD_wk hD2 (k := 0) (y := 2 * r + 1) (by omega) (by omega)
    have : 2 * r + 1 = 2 * r := this
    omega
  exact ⟨_, (odd_cw hO hL hL0).1⟩
def Z1 (C : Nat → Int) : Prop := ∀ y, C y = 0 ∨ C y = 1
/-- The parts so far have the parity of their distances. -/
def SideI (H : List Nat) (n wi k : Nat) (C : Nat → Int) : Prop := ∀ y, y < n → reachN H wi y ∈ (partsN H wi).take k → ∀ D, IsDist H (reachN H wi y) (Lib.ctz 32 (reachN H wi y)) n D → 0 ≤ D y ∧ C y = D y % 2
theorem SideI.zero {H : List Nat} {n wi : Nat} {C : Nat → Int} : SideI H n wi 0 C := fun y _ h => by simp at h
theorem part_dist {H : List Nat} {n wi r : Nat} (hW : WideI H n) (hw : wi < 2 ^ n) (hs : SymN H wi) (hr : wi.testBit r = true) : DistI H (reachN H wi r) (Lib.ctz 32 (reachN H wi r)) n ∧ (reachN H wi r).testBit (Lib.ctz 32 (reachN H wi r)) = true := by
  have hw32 := Nat.lt_trans hw (pow16_lt hW.le)
  have hr32 := bit_lt_of (n := 32) hw32 hr
  have hp := reachN_lt H wi r
  have hne : reachN H wi r ≠ 0 := fun e => by have := reach_start (a := H) hw32 hr32; rw [e, Nat.zero_testBit] at this; cases this
  have hc := ctz_bit hne hp
  have hpn : reachN H wi r < 2 ^ n := lt_bits fun i hi => bit_lt_of hw (reach_sub hw32 hr hi)
  exact ⟨⟨hW, hpn, bit_lt_of hpn hc⟩, hc⟩
theorem SideI.next {H : List Nat} {n wi k : Nat} {C C' D' : Nat → Int} (hW : WideI H n) (hw : wi < 2 ^ n) (hall : ∀ y, y < n → wi.testBit y = true) (hs : SymN H wi) (h : SideI H n wi k C) (hk : k < (partsN H wi).length)
    (hD : IsDist H (partsN H wi)[k] (Lib.ctz 32 (partsN H wi)[k]) n D') (hC : ∀ y, y < n → C' y = if 0 ≤ D' y then D' y % 2 else C y) : SideI H n wi (k + 1) C' := fun y hy hm D hDy => by
  have hw32 := Nat.lt_trans hw (pow16_lt hW.le)
  obtain ⟨r', hr', he⟩ := parts_from hw32 hs _ (List.getElem_mem hk)
  rw [he] at hD
  obtain ⟨hI', hc'⟩ := part_dist hW hw hs hr'
  have hball := reach_ball hI' hD hc' y
  rw [reach_self hw32 hs hr' hc'] at hball
  have hyw := hall y hy
  have hyy := reach_start (a := H) hw32 (bit_lt_of (n := 32) hw32 hyw)
  rw [List.take_succ_eq_append_getElem hk, List.mem_append] at hm
  by_cases e : reachN H wi y = reachN H wi r'
  · rw [e] at hDy hyy
    have h1 := (hball.1 hyy).2
    have h2 := hDy.unique hD hy
    rw [h2, hC y hy, if_pos h1]
    exact ⟨h1, rfl⟩
  · have hno : ¬ 0 ≤ D' y := fun h0 => e (reach_eq hw32 hs hr' (hball.2 ⟨hy, h0⟩))
    rcases hm with hm | hm
    · rw [hC y hy, if_neg hno]
      exact h y hy hm D hDy
    · rw [List.mem_singleton, he] at hm
      exact absurd hm e
theorem SideI.all {H : List Nat} {n wi : Nat} {C : Nat → Int} (hW : WideI H n) (hw : wi < 2 ^ n) (hall : ∀ y, y < n → wi.testBit y = true) (hs : SymN H wi) (h : SideI H n wi (partsN H wi).length C) {u v : Nat} (hu : u < n) (hv : v < n) (hb : (H.getD u 0).testBit v = true)
    (e : C u = C v) : ∃ q, CW H n q := by
  have hw32 := Nat.lt_trans hw (pow16_lt hW.le)
  have hsn : ∀ x y, x < n → y < n → (H.getD x 0).testBit y = true → (H.getD y 0).testBit x = true := fun x y hx hy => hs x y (hall x hx) (hall y hy)
  have hu32 := bit_lt_of (n := 32) hw32 (hall u hu)
  have huv : (reachN H wi u).testBit v = true := reach_closed hw32 hu32 u (reach_start hw32 hu32) v (hall v hv) hb
  have he : reachN H wi v = reachN H wi u := reach_eq hw32 hs (hall u hu) huv
  obtain ⟨p, hp, hpu, r, hr, hpr⟩ := parts_all hw32 hs u (hall u hu)
  subst hpr
  have hru : reachN H wi u = reachN H wi r := reach_eq hw32 hs hr hpu
  obtain ⟨D, hD⟩ := dist_exists H (reachN H wi u) (Lib.ctz 32 (reachN H wi u)) n
  have h1 := h u hu (by rw [List.take_length, hru]; exact hp) D hD
  have h2 := h v hv (by rw [List.take_length, he, hru]; exact hp) D (by rw [he]; exact hD)
  obtain ⟨hI, -⟩ := part_dist hW hw hs (hall u hu)
  refine odd_exists (ku := (D u).toNat) (kv := (D v).toNat) hI hD hsn (fun x => ?_) (fun x y hx hb => ?_) hu hv hb (by omega) (by omega) (by omega)
  · exact Nat.lt_trans (getD_ltN hW.lt x) (pow16_lt hW.le)
  · exact bit_lt_of (n := n) (getD_ltN hW.lt x) hb
/-- Two sides: no edge lies in one. -/
def TwoSides (H : List Nat) (n : Nat) (C : Nat → Int) : Prop := ∀ x y, x < n → y < n → (H.getD x 0).testBit y = true → C x ≠ C y
theorem two_no_odd {H : List Nat} {n : Nat} {C : Nat → Int} (hz : Z1 C) (h : TwoSides H n C) : ∀ q, ¬ CW H n q := fun q hq => by
  have hp : 0 < q.length := by have := hq.odd; omega
  have alt : ∀ i, i < q.length → C (q.getD i 0) = (C (q.getD 0 0) + i) % 2 := by
    intro i
    induction i with
    | zero => intro h0; have := hz (q.getD 0 0); omega
    | succ i ih =>
      intro hi
      have h1 := ih (by omega)
      have h2 := h _ _ (hq.lt i (by omega)) (hq.lt (i + 1) hi) (hq.ch i hi)
      have h3 := hz (q.getD (i + 1) 0)
      have h4 := hz (q.getD i 0)
      omega
  have hl := alt (q.length - 1) (by omega)
  have hodd := hq.odd
  have h0 := hz (q.getD 0 0)
  have hc := hq.cl
  unfold finN lastN at hc
  exact h _ _ (hq.lt (q.length - 1) (by omega)) (hq.lt 0 hp) hc (by omega)
theorem Z1.put {C C' : Nat → Int} {D : Nat → Int} {k : Nat} (h : Z1 C) (hC : ∀ y, C' y = if k = y then D k % 2 else C y) : Z1 C' := fun y => by
  rw [hC]
  by_cases e : k = y
  · rw [if_pos e]; omega
  · rw [if_neg e]; exact h y
end Go.Proofs.YthpbeiihlembnaaDoor
