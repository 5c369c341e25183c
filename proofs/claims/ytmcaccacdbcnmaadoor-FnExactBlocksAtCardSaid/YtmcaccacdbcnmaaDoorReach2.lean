/- What can be reached, and the parts: the reference's. -/
import Derived.Test.YtmcaccacdbcnmaaDoorReachM
import Derived.Test.YtmcaccacdbcnmaaDoorQueue
import Derived.Test.YtmcaccacdbcnmaaDoorClos
import Derived.Test.YtmcaccacdbcnmaaDoorInto2
namespace Go.Proofs.YtmcaccacdbcnmaaDoor
open Go.RowKit
theorem popN_I (m : Nat) : popN m = (bitsI m).length := by simp [popN, bitsI]
theorem bitsI_bit {f : Nat} (hf : f < 32) : bitsI (bit f) = [(f : Int)] := by
  refine sorted_ext (bitsI_sorted _) (by simp) fun x => ?_
  rw [mem_bitsI (bit_lt hf), testBit_bit]
  simp only [decide_eq_true_eq, List.mem_singleton]
  omega
theorem popN_add {m x : Nat} (hm : m < 4294967296) (hx : x < 32) (h : m.testBit x = false) : popN (m ||| bit x) = popN m + 1 := by
  have hb := bit_lt hx
  have hor : m ||| bit x < 4294967296 := or_lt32' hm hb
  have h1 := pop_split' hor hm (fun i hi => by rw [Nat.testBit_or, hi]; rfl)
  have h2 : andN (m ||| bit x) m = bit x := by
    apply nat_ext
    intro i
    rw [testBit_andN hor hm, Nat.testBit_or, testBit_bit]
    by_cases e : x = i
    · subst e; simp [h]
    · simp [e]
  rw [h1, h2, popN_I (bit x), bitsI_bit hx]; rfl
where
  or_lt32' {a b : Nat} (ha : a < 4294967296) (hb : b < 4294967296) : a ||| b < 4294967296 := Nat.or_lt_two_pow (n := 32) ha hb
  len_split' {α : Type} (p q : α → Bool) : ∀ l : List α, (l.filter p).length = (l.filter fun x => p x && q x).length + (l.filter fun x => p x && !q x).length
    | [] => rfl
    | x :: l => by
      have ih := len_split' p q l
      rw [List.filter_cons, List.filter_cons, List.filter_cons]
      cases p x <;> cases q x <;> simp [ih] <;> omega
  pop_split' {s r : Nat} (hs : s < 4294967296) (hr : r < 4294967296) (h : ∀ i, r.testBit i = true → s.testBit i = true) : popN s = popN r + popN (andN s r) := by
    unfold popN bitsN
    rw [len_split' s.testBit r.testBit]
    congr 1
    · congr 1
      apply List.filter_congr
      intro i _
      cases hri : r.testBit i
      · simp
      · rw [h i hri]; rfl
    · congr 1
      apply List.filter_congr
      intro i _
      rw [testBit_andN hs hr]
/-- The state of the reference's search: Q waits. -/
structure QI (a : List Nat) (s f n M : Nat) (Q : List Nat) : Prop where
  reach : ReachI a s f M
  lt : M < 2 ^ n
  inM : ∀ x ∈ Q, M.testBit x = true
  done : ∀ x, M.testBit x = true → ¬ x ∈ Q → ∀ u, s.testBit u = true → (a.getD x 0).testBit u = true → M.testBit u = true
  len : Q.length ≤ popN M
/-- The state while x is looked at: its neighbours among the first k of the set are met. -/
structure QJ (a : List Nat) (s f n x k M : Nat) (Q : List Nat) : Prop where
  reach : ReachI a s f M
  lt : M < 2 ^ n
  inM : ∀ y ∈ Q, M.testBit y = true
  atx : M.testBit x = true
  done : ∀ y, M.testBit y = true → ¬ y ∈ Q → y ≠ x → ∀ u, s.testBit u = true → (a.getD y 0).testBit u = true → M.testBit u = true
  some : ∀ j (h : j < (bitsN s).length), j < k → (a.getD x 0).testBit (bitsN s)[j] = true → M.testBit (bitsN s)[j] = true
  len : Q.length ≤ popN M
theorem QI.start {a : List Nat} {s f n : Nat} (hs : s < 4294967296) (hf : f < n) (hn : n ≤ 16) : QI a s f n (bit f) [f] := by
  refine ⟨ReachI.start hs (by omega), by unfold bit; exact Nat.pow_lt_pow_right (by omega) hf, fun x hx => ?_, fun x hx hq => ?_, ?_⟩
  · have : x = f := by simpa using hx
    subst this; rw [testBit_bit]; simp
  · rw [testBit_bit] at hx
    have : f = x := by simpa using hx
    subst this; simp at hq
  · rw [popN_I, bitsI_bit (by omega)]; simp
theorem QI.end_ {a : List Nat} {s f n M : Nat} (hs : s < 4294967296) (hf : f < n) (hn : n ≤ 16) (h : QI a s f n M []) : M = reachN a s f :=
  h.reach.done hs (by omega) fun x hx u hu hb => h.done x hx (by simp) u hu hb
theorem QI.take {a : List Nat} {s f n M x : Nat} {Q : List Nat} (h : QI a s f n M (x :: Q)) : QJ a s f n x 0 M Q :=
  ⟨h.reach, h.lt, fun y hy => h.inM y (by simp [hy]), h.inM x (by simp), fun y hy hq hx => h.done y hy (by simp [hq, hx]), fun j _ hj => by omega, by have := h.len; simp at this; omega⟩
theorem QJ.end_ {a : List Nat} {s f n x k M : Nat} {Q : List Nat} (hs : s < 4294967296) (h : QJ a s f n x k M Q) (hk : (bitsN s).length ≤ k) : QI a s f n M Q := by
  refine ⟨h.reach, h.lt, h.inM, fun y hy hq u hu hb => ?_, h.len⟩
  by_cases e : y = x
  · subst e
    obtain ⟨j, hj, rfl⟩ := List.getElem_of_mem ((mem_bitsN hs).2 hu)
    exact h.some j hj (by omega) hb
  · exact h.done y hy hq e u hu hb
theorem QJ.skip {a : List Nat} {s f n x k M : Nat} {Q : List Nat} (h : QJ a s f n x k M Q) (hk : k < (bitsN s).length) (hb : (a.getD x 0).testBit (bitsN s)[k] = true → M.testBit (bitsN s)[k] = true) : QJ a s f n x (k + 1) M Q := by
  refine ⟨h.reach, h.lt, h.inM, h.atx, h.done, fun j hj hjk => ?_, h.len⟩
  by_cases e : j = k
  · subst e; exact hb
  · exact h.some j hj (by omega)
theorem QJ.add {a : List Nat} {s f n x k M : Nat} {Q : List Nat} (hs : s < 2 ^ n) (hf : f < n) (hn : n ≤ 16) (h : QJ a s f n x k M Q) (hk : k < (bitsN s).length) (hb : (a.getD x 0).testBit (bitsN s)[k] = true) (hM : M.testBit (bitsN s)[k] = false) :
    QJ a s f n x (k + 1) (M ||| bit (bitsN s)[k]) (Q ++ [(bitsN s)[k]]) := by
  have hs32 : s < 4294967296 := Nat.lt_of_lt_of_le hs (by have := pow_le16 hn; omega)
  have hM32 : M < 4294967296 := Nat.lt_of_lt_of_le h.lt (by have := pow_le16 hn; omega)
  have hu : s.testBit (bitsN s)[k] = true := (mem_bitsN hs32).1 (List.getElem_mem _)
  have hun := bit_lt_of hs hu
  generalize hy : (bitsN s)[k] = y at *
  refine ⟨h.reach.step hs32 (by omega) h.atx hu hb, Nat.or_lt_two_pow h.lt (by unfold bit; exact Nat.pow_lt_pow_right (by omega) hun), fun z hz => ?_, by rw [Nat.testBit_or, h.atx]; rfl, fun z hz hq hzx u hu' hbz => ?_, fun j hj hjk hbj => ?_, ?_⟩
  · rw [Nat.testBit_or, testBit_bit]
    rcases List.mem_append.1 hz with h1 | h1
    · rw [h.inM z h1]; rfl
    · have : z = y := by simpa using h1
      subst this; simp
  · rw [Nat.testBit_or, testBit_bit, Bool.or_eq_true] at hz
    rcases hz with hz | hz
    · rw [Nat.testBit_or, h.done z hz (fun hm => hq (by simp [hm])) hzx u hu' hbz]; rfl
    · have : y = z := by simpa using hz
      subst this
      exact absurd (by simp) hq
  · rw [Nat.testBit_or, testBit_bit]
    by_cases e : j = k
    · subst e; rw [hy]; simp
    · rw [h.some j hj (by omega) hbj]; rfl
  · rw [popN_add hM32 (by omega) hM]
    have := h.len
    simp; omega
theorem bitsI_get {m k : Nat} (hk : k < (bitsI m).length) : (bitsI m)[k] = (((bitsN m)[k]'(by simpa [bitsI] using hk) : Nat) : Int) := by simp [bitsI]
theorem apart_lit {a b n c m d : Nat} (h : a ≠ b) : Apart (.slice (some ⟨a, 0, none⟩) n c) (.slice (some ⟨b, 0, none⟩) m d) := fun k h1 h2 => h (by simp [Value.ownBlock] at h1 h2; omega)
theorem lenV_own {w : World} {B : Nat} {E : TypeId} {o : Value} {M : Nat} (h : OwnB w B E o M) : lenV o = popN M := by
  rw [popN_I]
  rcases h.2 with ⟨rfl, h2⟩ | ⟨_, _, _, rfl, _⟩
  · exact h2.symm
  · rfl
theorem bitsI_lenN (m : Nat) : (bitsI m).length = (bitsN m).length := by simp [bitsI]
/-- A number put into a rising list: where the list lies then. -/
theorem intoB_new {B : Nat} {v : Value} {m x : Nat} {w : World} (hv : OwnB w B 2 v m) (hm : m < 4294967296) (hx : x < 32) (h : m.testBit x = false) :
    Calls Tryd.prog 84 #[v, .int .i64 (x : Int)] w fun e w' => ∃ u, e = .returned u ∧ OwnB w' w.heap.size 2 u (m ||| bit x) ∧ Below w.heap.size w w' := by
  have hl := bitsI_len m
  refine (l1Into_any _ _ _ _ hv.ints (by omega) (bitsI_sorted m) (fun hn => by have := ((mem_bitsI hm).1 hn).2; simp [h] at this)).mono ?_
  rintro e w' ⟨u, k, rfl, hk, h1, h2, hown, hb⟩
  refine ⟨u, rfl, ?_, hb⟩
  rw [bitsI_or hm hx h1 h2] at hown
  have e : (bitsI m).length + 1 = (bitsI (m ||| bit x)).length := by rw [← bitsI_or hm hx h1 h2, intoL_len]
  rw [e] at hown
  exact hown
theorem intoB_apart {B : Nat} {v : Value} {m x : Nat} {w : World} (hv : OwnB w B 2 v m) (hB : B ≤ w.heap.size) (hm : m < 4294967296) (hx : x < 32) :
    Calls Tryd.prog 84 #[v, .int .i64 (x : Int)] w fun e w' => ∃ u, e = .returned u ∧ OwnB w' B 2 u (m ||| bit x) ∧ (u = v ∨ ∀ b, u.ownBlock = some b → w.heap.size ≤ b) ∧ Below w.heap.size w w' := by
  by_cases h : m.testBit x = true
  · refine (l1Into_in hv.ints (bitsI_sorted m) ((mem_bitsI hm).2 ⟨by omega, by simpa using h⟩)).mono ?_
    rintro e w' ⟨rfl, rfl⟩
    exact ⟨v, rfl, by rw [or_bit_same h]; exact hv, .inl rfl, Below.refl _ _⟩
  · refine (intoB_new hv hm hx (by simpa using h)).mono ?_
    rintro e w' ⟨u, rfl, h1, h2⟩
    exact ⟨u, rfl, Own.weak h1 hB, .inr h1.ge, h2⟩
set_option maxRecDepth 100000 in
set_option maxHeartbeats 8000000 in
theorem l16Reach_any {S S' : Nat → Prop} {v u : Value} {g : List (List Int)} {s f : Nat} {t : Bool} {w : World} (hg : GOk g) (hv : SlR S w v g) (hu : SlI S' w .i64 u (bitsI s)) (hs : s < 2 ^ g.length) (hf : f < g.length) :
    Calls Tryd.prog 109 #[.agg #[v], u, .int .i64 (f : Int), .bool t] w fun e w' => ∃ x, e = .returned x ∧ OwnB w' w.heap.size 2 x (reachN (adjN (netsL g) t) s f) ∧ Below w.heap.size w w' := by
  have hq0 : Below w.heap.size w (w.alloc (.cells #[v] 28)) := (Below.refl _ _).alloc (Nat.le_refl _) _
  have h16 := hg.hi
  have hs32 : s < 4294967296 := Nat.lt_of_lt_of_le hs (by have := pow_le16 h16; omega)
  have hadj := fun x y (hx : x < g.length) (hy : y < g.length) => adj_bit hg hx hy t
  have hstart := QI.start (a := adjN (netsL g) t) hs32 hf h16
  have hend := fun M (h : QI (adjN (netsL g) t) s f g.length M []) => h.end_ hs32 hf h16
  generalize adjN (netsL g) t = A at *
  obtain ⟨a, b, off, cap, fr, rfl, hl, ha, hc0⟩ := hv
  obtain ⟨ub, uo, ucap, hue, huc0⟩ := hu.at_
  obtain ⟨ua, uc, rfl⟩ := hu.slice
  have hbl := bitsI_lenN s
  have hb32 := bitsI_len s
  rw [hbl] at hue ⊢
  have hsl : (bitsN s).length ≤ 32 := by omega
  have HBL := Lib.hid hbl; clear hbl
  have hlitq : Own ((w.alloc (.cells #[.slice a g.length cap] 28)).alloc (.cells #[.int .i64 (f : Int)] 2)) (w.heap.size + 1) 2 1 (.slice (some ⟨w.heap.size + 1, 0, none⟩) 1 1) 1 [.int .i64 (f : Int)] := by
    have := World.ownsRow_lit (base := w.heap.size + 1) (e := 2) (size := 1) (w.alloc (.cells #[.slice a g.length cap] 28)) #[.int .i64 (f : Int)] 1 (by simp) (by unfold maxLen; omega) rfl
    simpa [Own] using this
  have hlito : Own ((w.alloc (.cells #[.slice a g.length cap] 28)).alloc (.cells #[.int .i64 (f : Int)] 2)) (w.heap.size + 1) 2 1 (.slice (some ⟨w.heap.size + 1, 0, none⟩) 1 1) 1 [.int .i64 (f : Int)] := hlitq
  have hq1 := hq0.alloc (by simp) (.cells #[.int .i64 (f : Int)] 2)
  have hlitq2 : Own (((w.alloc (.cells #[.slice a g.length cap] 28)).alloc (.cells #[.int .i64 (f : Int)] 2)).alloc (.cells #[.int .i64 (f : Int)] 2)) (w.heap.size + 1) 2 1 (.slice (some ⟨w.heap.size + 1 + 1, 0, none⟩) 1 1) 1 [.int .i64 (f : Int)] := by
    have := World.ownsRow_lit (base := w.heap.size + 1) (e := 2) (size := 1) ((w.alloc (.cells #[.slice a g.length cap] 28)).alloc (.cells #[.int .i64 (f : Int)] 2)) #[.int .i64 (f : Int)] 1 (by first | (simp; done) | (simp; omega)) (by unfold maxLen; omega) rfl
    simpa [Own] using this
  have hlito2 := Own.alloc hlito (.cells #[.int .i64 (f : Int)] 2)
  have hq2 := hq1.alloc (by simp; omega) (.cells #[.int .i64 (f : Int)] 2)
  clear hlito hlitq
  go_enter Tryd.func109, Tryd.ntmps109
  go_wp2
  go_loopw [9, 10] (fun o q wr => ∃ (M : Nat) (Q : List Nat), OwnB wr (w.heap.size + 1) 2 o M ∧ OwnQ wr (w.heap.size + 1) q ((natsI Q).map (.int .i64)) ∧ Apart o q ∧ QI A s f g.length M Q ∧ Below w.heap.size w wr ∧ wr.cell? ⟨w.heap.size, 0, none⟩ = some (.slice a g.length cap)) (fun o q _ => 2 * (33 - lenV o) + lenV q)
  case atStart =>
    refine ⟨bit f, [f], ?_, OwnQ.ofOwn hlitq2, ?_, hstart, hq2, by simp [go_sem]⟩
    · unfold OwnB; rw [bitsI_bit (by omega)]; exact hlito2
    · exact apart_lit (by omega)
  case round =>
    clear hlitq2 hlito2 hq2 hq1 hq0 hstart
    obtain ⟨M, Q, ho, hqu, hap, hqi, hq, hbx⟩ := hrel
    have hB := hq.size
    have hB2 : w.heap.size + 1 ≤ wr.heap.size := cell_lt hbx
    have hM32 : M < 4294967296 := Nat.lt_of_lt_of_le hqi.lt (by have := pow_le16 h16; omega)
    have hpm := popN_32 M
    have HLO := Lib.hid (lenV_own ho)
    have hqu1 := hqu
    obtain ⟨qg, qo, qc, rfl, -⟩ := hqu1
    cases Q with
    | nil =>
      have hE := hend M hqi
      have HE := Lib.hid hE; clear hE hend hqi
      simp only [natsI, List.map_nil, List.length_nil] at hqu ⊢
      go_wp2
      go_ret
      exact ⟨_, rfl, by rw [← HE.out]; exact Own.weak ho (by omega), hq⟩
    | cons x Q =>
      have hql := hqi.len
      have hxM := hqi.inM x (by simp)
      have hxn := bit_lt_of hqi.lt hxM
      simp only [natsI, List.map_cons, List.length_cons, List.length_map] at hqu ⊢
      have hqu0 := hqu
      obtain ⟨qg', qo', qc', hqe, -, -, -, -, -, -, hcells⟩ := hqu0
      simp only [Value.slice.injEq, Option.some.injEq, Addr.mk.injEq, and_true] at hqe
      obtain ⟨⟨rfl, rfl⟩, -, rfl⟩ := hqe
      have hfirst := hcells 0 (by simp)
      simp only [Nat.add_zero, List.getElem_cons_zero] at hfirst
      clear hcells
      have hrest := hqu.cut hap
      simp only [Nat.add_sub_cancel] at hrest
      obtain ⟨qv, hqv, hqr, hap2⟩ := hrest
      have hqj := hqi.take
      have hone : (1 : Int) ≤ ((Q.length + 1 : Nat) : Int) := by omega
      have HQI := Lib.hid hqi; clear hqi hend hqu hap
      obtain ⟨wo, hwo⟩ : ∃ wo : World, wo = wr := ⟨_, rfl⟩
      rcases hqv with ⟨rfl, rfl⟩ | ⟨hc1, rfl⟩
      all_goals (
        go_wp2
        go_loopw [9, 10, 12] (fun o q i wr => ∃ (M2 : Nat) (Q2 : List Nat) (k : Nat), i = .int .i64 k ∧ k ≤ (bitsN s).length ∧ OwnB wr (w.heap.size + 1) 2 o M2 ∧ OwnQ wr (w.heap.size + 1) q ((natsI Q2).map (.int .i64)) ∧ Apart o q ∧ QJ A s f g.length x k M2 Q2 ∧ 2 * (33 - popN M2) + Q2.length ≤ 2 * (33 - popN M) + Q.length ∧ Below w.heap.size w wr ∧ wr.cell? ⟨w.heap.size, 0, none⟩ = some (.slice a g.length cap)) (fun _ _ i _ => (bitsN s).length - (intOf i).toNat)
        case atStart => exact ⟨M, Q, 0, rfl, Nat.zero_le _, ho, (by simpa [natsI] using hqr), hap2, hqj, Nat.le_refl _, hq, hbx⟩
        case round =>
          clear ho hqr hap2 hqj hq hbx hB hB2 hM32 hfirst hql
          obtain ⟨wi, rfl⟩ : ∃ wi : World, wi = wr := ⟨_, rfl⟩
          obtain ⟨M2, Q2, k, rfl, hk, ho, hqu, hap, hqj, hms, hq, hbx⟩ := hrel
          have hB := hq.size
          have hB2 : w.heap.size + 1 ≤ wi.heap.size := cell_lt hbx
          have hM32 : M2 < 4294967296 := Nat.lt_of_lt_of_le hqj.lt (by have := pow_le16 h16; omega)
          have hpm2 := popN_32 M2
          have hbl := HBL.out
          by_cases hlt : k < (bitsN s).length
          case neg =>
            have hqi := hqj.end_ hs32 (by omega)
            have HQ := Lib.hid hqi; clear hqi hqj hbl
            go_wp2
            go_roundw
            case rel => exact ⟨M2, Q2, ho, hqu, hap, HQ.out, hq, hbx⟩
            case measure =>
              obtain ⟨_, _, _, rfl, -⟩ := hqu
              have h1 := lenV_own ho
              have h2 := HLO.out
              simp only [lenV, List.length_map, natsI_len] at h1 h2 ⊢
              rw [h1, h2]
              omega
          have hyk : (bitsI s)[k]'(by omega) = (((bitsN s)[k] : Nat) : Int) := bitsI_get _
          have hys := (mem_bitsN hs32).1 (List.getElem_mem hlt)
          have hyn := bit_lt_of hs hys
          have hcell0 := huc0 k (by omega)
          rw [hyk] at hcell0
          have hue2 := hue (by omega)
          simp only [Value.slice.injEq] at hue2
          obtain ⟨rfl, -, rfl⟩ := hue2
          have hcell : wi.cell? ⟨ub, uo + k, none⟩ = some (.int .i64 (((bitsN s)[k] : Nat) : Int)) := (hq.cell (p := ⟨ub, uo + k, none⟩) (cell_lt hcell0)).trans hcell0
          have hA := hadj x (bitsN s)[k] hxn hyn
          have hskip := hqj.skip hlt
          have hadd := hqj.add hs hf h16 hlt
          have hpa := popN_add hM32 (x := (bitsN s)[k]) (by omega)
          have hinto := intoB_new ho hM32 (x := (bitsN s)[k]) (by omega)
          generalize (bitsN s)[k] = y at *
          obtain ⟨hcell2, hrow⟩ := (hc0.below hq (Nat.le_refl _)) x hxn
          obtain ⟨rfl, -⟩ := ha (by omega)
          have hgx : g.getD x [] = g[x] := by simp [hxn]
          rw [hgx] at hA
          have hhas1 := l1Has_any (fr x) g[x] (y : Int) wi hrow
          have hhas2 := l1Has_any _ (bitsI M2) (y : Int) wi ho.ints
          have hmem : decide ((y : Int) ∈ bitsI M2) = M2.testBit y := by
            rw [Bool.eq_iff_iff, decide_eq_true_eq, mem_bitsI hM32]; simp
          rw [hmem] at hhas2
          clear hcell0 hue hyk hmem hqj hys hbl
          by_cases hyx : y = x
          · have hb1 : ((y : Int) != (x : Int)) = false := by rw [bne_eq_false_iff_eq]; omega
            have hb2 : (y != x) = false := by rw [bne_eq_false_iff_eq]; omega
            have hA2 : (A.getD x 0).testBit y = false := by rw [hA]; simp [hyx]
            have hnx := hskip (fun h => by rw [hA2] at h; cases h)
            have HNX := Lib.hid hnx; clear hA hA2 hskip hadd hinto hhas1 hhas2 hnx hyx hpa
            go_wp2
            go_roundw
            case rel => exact ⟨M2, Q2, k + 1, by go_num, by omega, ho, hqu, hap, HNX.out, hms, hq, hbx⟩
            case measure => simp [intOf]; omega
          have hb1 : ((y : Int) != (x : Int)) = true := by rw [bne_iff_ne]; omega
          have hb2 : (y != x) = true := by rw [bne_iff_ne]; omega
          have hdx : decide (y ≠ x) = true := by simpa using hyx
          rw [hdx, Bool.true_and] at hA
          generalize decide ((y : Int) ∈ g[x]) = b1 at hA hhas1
          clear hdx hyx
          obtain ⟨r, hr⟩ : ∃ r, (b1 != t) = r := ⟨_, rfl⟩
          rw [hr] at hA
          have hr2 : (b1 ^^ t) = r := by subst hr; cases b1 <;> cases t <;> rfl
          have hr3 : (b1 == t) = !r := by subst hr; cases b1 <;> cases t <;> rfl
          have HA := Lib.hid hA; clear hA
          cases hMy : M2.testBit y
          · rw [hMy] at hhas2
            have hadd := fun h => hadd h hMy
            have hpa := hpa hMy
            have hinto := hinto hMy
            have HP := Lib.hid hpa; have HADD := Lib.hid hadd; have HSK := Lib.hid hskip; clear hpa hadd hskip hMy
            rcases Bool.eq_false_or_eq_true r with rfl | rfl
            rotate_left
            all_goals
              first
              | (have hA2 : (A.getD x 0).testBit y = false := HA.out
                 have HNX := Lib.hid (HSK.out (fun h => by rw [hA2] at h; cases h)); clear hA2 HA HADD HSK hhas2 hinto HP
                 go_wp2_with fail
                 (with_reducible refine hhas1.mono ?_)
                 rintro e w3 ⟨rfl, rfl⟩
                 clear hhas1
                 go_wp2
                 go_roundw
                 case rel => exact ⟨M2, Q2, k + 1, by go_num, by omega, ho, hqu, hap, HNX.out, hms, hq, hbx⟩
                 case measure => simp [intOf]; omega)
              | (have hA2 : (A.getD x 0).testBit y = true := HA.out
                 have HNX := Lib.hid (HADD.out hA2); clear hA2 HA HADD HSK
                 go_wp2_with fail
                 (with_reducible refine hhas1.mono ?_)
                 rintro e w3 ⟨rfl, rfl⟩
                 clear hhas1
                 go_wp2_with fail
                 (with_reducible refine hhas2.mono ?_)
                 rintro e w3 ⟨rfl, rfl⟩
                 clear hhas2
                 go_wp2_with fail
                 (with_reducible refine hinto.mono ?_)
                 rintro e w3 ⟨o2, rfl, ho2, hb3⟩
                 clear hinto
                 have hq3 := hq.trans (hb3.mono hB)
                 have hqu3 := hqu.below hb3 (Nat.le_refl _)
                 have hB3 := hq3.size
                 have hB4 : w.heap.size + 1 ≤ w3.heap.size := Nat.le_trans hB2 hb3.size
                 have hbx3 := (hb3.cell (cell_lt hbx)).trans hbx
                 have hap3 : Apart o2 _ := fun b hb hb2 => (by have := ho2.ge b hb; have := (hqu.lt b hb2).2; omega)
                 have hln : ((natsI Q2).map (Value.int .i64)).length + 1 ≤ 1099511627 := by
                   have := HNX.out.len; simp [natsI] at this ⊢; have := popN_32 (M2 ||| bit y); omega
                 go_wp2_with (at_builtin; refine wpList_appendQ elI64 rfl _ _ rfl hqu3 rfl rfl rfl rfl hln hB4 ?_; intro v' w4 hqu4 hkept hmv)
                 have ho4 : OwnB w4 (w.heap.size + 1) 2 o2 (M2 ||| bit y) := Own.kept (Own.weak ho2 hB2) hkept (fun b hb he => hap3 b hb he)
                 have hap4 : Apart o2 v' := fun b hb hb2 => (by
                   rcases hmv with h | h
                   · rw [h] at hb2; exact hap3 b hb hb2
                   · rw [h] at hb2
                     have := (Own.lt ho2 b hb).2
                     simp at hb2; omega)
                 have hq4 := hkept.below hq3 hB3 (fun b hb => by have := (hqu3.lt b hb).1; omega)
                 have hbx4 : w4.cell? ⟨w.heap.size, 0, none⟩ = some (.slice (some ⟨b, off, none⟩) g.length cap) := (World.cell?_of_block (a := ⟨w.heap.size, 0, none⟩) (hkept.2.2.2.2 w.heap.size (cell_lt hbx3) (fun e => by have := (hqu3.lt _ e.symm); skip; omega))).trans hbx3
                 go_roundw
                 case rel => exact ⟨M2 ||| bit y, Q2 ++ [y], k + 1, by go_num, by omega, ho4, by simpa [natsI] using hqu4, hap4, HNX.out, by have := HP.out; have := popN_32 (M2 ||| bit y); simp; omega, hq4, hbx4⟩
                 case measure => simp [intOf]; omega)
          · rw [hMy] at hhas2
            have HNX := Lib.hid (hskip (fun _ => hMy)); clear hskip hadd hinto hpa hMy HA
            rcases Bool.eq_false_or_eq_true r with rfl | rfl
            all_goals
              first
              | (go_wp2_with fail
                 (with_reducible refine hhas1.mono ?_)
                 rintro e w3 ⟨rfl, rfl⟩
                 clear hhas1
                 go_wp2_with fail
                 (with_reducible refine hhas2.mono ?_)
                 rintro e w3 ⟨rfl, rfl⟩
                 clear hhas2
                 go_wp2
                 go_roundw
                 case rel => exact ⟨M2, Q2, k + 1, by go_num, by omega, ho, hqu, hap, HNX.out, hms, hq, hbx⟩
                 case measure => simp [intOf]; omega)
              | (clear hhas2
                 go_wp2_with fail
                 (with_reducible refine hhas1.mono ?_)
                 rintro e w3 ⟨rfl, rfl⟩
                 clear hhas1
                 go_wp2
                 go_roundw
                 case rel => exact ⟨M2, Q2, k + 1, by go_num, by omega, ho, hqu, hap, HNX.out, hms, hq, hbx⟩
                 case measure => simp [intOf]; omega))
end Go.Proofs.YtmcaccacdbcnmaaDoor
