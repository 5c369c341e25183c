/- A graph has a tree of union and join just where it has no path of four: plain facts. -/
import Derived.Test.YtplohdnakllbiaaDoorCoTM
import Derived.Test.YtplohdnakllbiaaDoorCoL
import Derived.Test.YtplohdnakllbiaaDoorFourM
namespace Go.Proofs.YtplohdnakllbiaaDoor
/-- No closed set parts s. -/
def ConnR (R : Nat → Nat → Prop) (s : List Nat) : Prop := ∀ M : Nat → Prop, (∃ x ∈ s, M x) → (∀ x ∈ s, M x → ∀ y ∈ s, R x y → M y) → ∀ x ∈ s, M x
def CoR (R : Nat → Nat → Prop) (x y : Nat) : Prop := x ≠ y ∧ ¬ R x y
structure Gr (R : Nat → Nat → Prop) : Prop where
  sym : ∀ x y, R x y → R y x
  irr : ∀ x, ¬ R x x
/-- A path of four vertices, no edges beside it. -/
def HasP (R : Nat → Nat → Prop) (s : List Nat) : Prop := ∃ x ∈ s, ∃ y ∈ s, ∃ z ∈ s, ∃ u ∈ s, R x y ∧ R y z ∧ R z u ∧ ¬ R x z ∧ ¬ R y u ∧ ¬ R x u
theorem Gr.co {R : Nat → Nat → Prop} (h : Gr R) : Gr (CoR R) := ⟨fun _ _ k => ⟨fun e => k.1 e.symm, fun r => k.2 (h.sym _ _ r)⟩, fun _ k => k.1 rfl⟩
theorem Gr.coco {R : Nat → Nat → Prop} (h : Gr R) : CoR (CoR R) = R := by
  funext x y
  apply propext
  constructor
  · rintro ⟨h1, h2⟩
    exact Classical.byContradiction fun h3 => h2 ⟨h1, h3⟩
  · intro r
    exact ⟨fun e => h.irr x (by rw [← e] at r; exact r), fun k => k.2 r⟩
theorem HasP.co {R : Nat → Nat → Prop} {s : List Nat} (h : Gr R) (k : HasP (CoR R) s) : HasP R s := by
  obtain ⟨x, hx, y, hy, z, hz, u, hu, h1, h2, h3, h4, h5, h6⟩ := k
  have back : ∀ a b, a ≠ b → ¬ CoR R a b → R a b := fun a b hab hn => Classical.byContradiction fun h3 => hn ⟨hab, h3⟩
  have n1 : x ≠ z := fun e => by subst e; exact h6 h3
  have n2 : y ≠ u := fun e => by subst e; exact h6 h1
  have n3 : x ≠ u := fun e => by subst e; exact h4 (h.co.sym _ _ h3)
  exact ⟨y, hy, u, hu, x, hx, z, hz, back _ _ n2 h5, h.sym _ _ (back _ _ n3 h6), back _ _ n1 h4, fun r => h1.2 (h.sym _ _ r), fun r => h3.2 (h.sym _ _ r), fun r => h2.2 r⟩
theorem HasP.sub {R : Nat → Nat → Prop} {s t : List Nat} (h : HasP R s) (hs : ∀ x ∈ s, x ∈ t) : HasP R t := by
  obtain ⟨x, hx, y, hy, z, hz, u, hu, k⟩ := h
  exact ⟨x, hs x hx, y, hs y hy, z, hs z hz, u, hs u hu, k⟩
theorem not_conn {R : Nat → Nat → Prop} {s : List Nat} (h : ¬ ConnR R s) : ∃ M : Nat → Prop, (∃ x ∈ s, M x) ∧ (∀ x ∈ s, M x → ∀ y ∈ s, R x y → M y) ∧ ∃ x ∈ s, ¬ M x := by
  refine Classical.byContradiction fun hn => h fun M h1 h2 x hx => ?_
  exact Classical.byContradiction fun h3 => hn ⟨M, h1, h2, x, hx, h3⟩
theorem seins_key {R : Nat → Nat → Prop} {v : Nat} {t : List Nat} (hR : Gr R) (hv : v ∉ t) (h1 : ConnR R (v :: t)) (h2 : ConnR (CoR R) (v :: t)) (h3 : ¬ ConnR R t) : HasP R (v :: t) := by
  obtain ⟨M, ⟨x0, hx0, hM0⟩, hcl, y0, hy0, hN0⟩ := not_conn h3
  -- a vertex that v does not see
  have hu : ∃ u ∈ t, ¬ R v u := Classical.byContradiction fun hn => by
    have hall : ∀ u ∈ t, R v u := fun u hu => Classical.byContradiction fun k => hn ⟨u, hu, k⟩
    have := h2 (fun x => x = v) ⟨v, by simp, rfl⟩ (fun x hx e y hy r => by
      subst e
      rcases List.mem_cons.1 hy with e | hy
      · exact e
      · exact absurd (hall y hy) r.2) x0 (List.mem_cons_of_mem _ hx0)
    subst this; exact hv hx0
  obtain ⟨u, hu, hvu⟩ := hu
  -- the side of u, and someone on the other side
  have hA : ∃ A : Nat → Prop, A u ∧ (∀ x ∈ t, A x → ∀ y ∈ t, R x y → A y) ∧ ∃ c ∈ t, ¬ A c := by
    by_cases hMu : M u
    · exact ⟨M, hMu, hcl, y0, hy0, hN0⟩
    · exact ⟨fun x => ¬ M x, hMu, fun x hx hnx y hy r hMy => hnx (hcl y hy hMy x hx (hR.sym _ _ r)), x0, hx0, fun k => k hM0⟩
  obtain ⟨A, hAu, hAc, c0, hc0, hAc0⟩ := hA
  -- v sees some vertex of each closed set
  have see : ∀ C : Nat → Prop, (∃ x ∈ t, C x) → (∀ x ∈ t, C x → ∀ y ∈ t, R x y → C y) → ∃ p ∈ t, C p ∧ R v p := fun C hne hc => Classical.byContradiction fun hn => by
    obtain ⟨x1, hx1, hC1⟩ := hne
    have := h1 (fun x => x ∈ t ∧ C x) ⟨x1, List.mem_cons_of_mem _ hx1, hx1, hC1⟩ (fun x _ hx y hy r => by
      rcases List.mem_cons.1 hy with e | hy
      · subst e; exact absurd ⟨x, hx.1, hx.2, hR.sym _ _ r⟩ hn
      · exact ⟨hy, hc x hx.1 hx.2 y hy r⟩) v (by simp)
    exact hv this.1
  -- the part of u
  let C : Nat → Prop := fun x => ∀ N : Nat → Prop, (∀ x ∈ t, N x → ∀ y ∈ t, R x y → N y) → N u → N x
  have hCc : ∀ x ∈ t, C x → ∀ y ∈ t, R x y → C y := fun x hx hC y hy r N hN hNu => hN x hx (hC N hN hNu) y hy r
  have hCA : ∀ x, C x → A x := fun x hC => hC A hAc hAu
  obtain ⟨p, hp, hCp, hvp⟩ := see C ⟨u, hu, fun N _ h => h⟩ hCc
  have hab : ∃ a ∈ t, ∃ b ∈ t, C a ∧ C b ∧ R a b ∧ R v a ∧ ¬ R v b := Classical.byContradiction fun hn => by
    have := hCp (fun x => C x ∧ ¬ R v x) (fun x hx k y hy r => ⟨hCc x hx k.1 y hy r, fun hvy => hn ⟨y, hy, x, hx, hCc x hx k.1 y hy r, k.1, hR.sym _ _ r, hvy, k.2⟩⟩) ⟨fun N _ h => h, hvu⟩
    exact this.2 hvp
  obtain ⟨a, ha, b, hb, hCa, hCb, rab, hva, hvb⟩ := hab
  obtain ⟨c, hc, hnc, hvc⟩ := see (fun x => ¬ A x) ⟨c0, hc0, hAc0⟩ (fun x hx hnx y hy r hAy => hnx (hAc y hy hAy x hx (hR.sym _ _ r)))
  have mt : ∀ {x}, x ∈ t → x ∈ v :: t := fun h => List.mem_cons_of_mem _ h
  exact ⟨b, mt hb, a, mt ha, v, by simp, c, mt hc, hR.sym _ _ rab, hR.sym _ _ hva, hvc, fun r => hvb (hR.sym _ _ r), fun r => hnc (hAc a ha (hCA a hCa) c hc r), fun r => hnc (hAc b hb (hCA b hCb) c hc r)⟩
theorem seinsche : ∀ (n : Nat) (R : Nat → Nat → Prop) (s : List Nat), s.length = n → 2 ≤ n → s.Nodup → Gr R → ConnR R s → ConnR (CoR R) s → HasP R s
  | 0, _, _, _, h, _, _, _, _ => by omega
  | 1, _, _, _, h, _, _, _, _ => by omega
  | n + 2, R, s, hl, _, hn, hR, h1, h2 => by
    match s, hl, hn, h1, h2 with
    | v :: t, hl, hn, h1, h2 =>
      have hlt : t.length = n + 1 := by simpa using hl
      obtain ⟨hvt, hnt⟩ := List.nodup_cons.1 hn
      by_cases hn0 : n = 0
      · subst hn0
        match t, hlt, hvt, h1, h2 with
        | [u], _, hvt, h1, h2 =>
          exfalso
          have huv : u ≠ v := fun e => hvt (by simp [e])
          by_cases r : R v u
          · have := h2 (fun x => x = v) ⟨v, by simp, rfl⟩ (fun x hx e y hy r2 => by
              subst e
              simp only [List.mem_cons, List.not_mem_nil, or_false] at hy
              rcases hy with e | e
              · exact e
              · subst e; exact absurd r r2.2) u (by simp)
            exact huv this
          · have := h1 (fun x => x = v) ⟨v, by simp, rfl⟩ (fun x hx e y hy r2 => by
              subst e
              simp only [List.mem_cons, List.not_mem_nil, or_false] at hy
              rcases hy with e | e
              · exact e
              · subst e; exact absurd r2 r) u (by simp)
            exact huv this
      · by_cases c1 : ConnR R t
        · by_cases c2 : ConnR (CoR R) t
          · exact (seinsche (n + 1) R t hlt (by omega) hnt hR c1 c2).sub fun x hx => List.mem_cons_of_mem _ hx
          · exact HasP.co hR (seins_key hR.co hvt h2 (by rw [hR.coco]; exact h1) c2)
        · exact seins_key hR hvt h1 h2 c1
/-- A path of four stays within one part of a parted set. -/
theorem path_part {R : Nat → Nat → Prop} {s : List Nat} (hR : Gr R) {P : Nat → Prop} {x y z u : Nat} (hc : ∀ x ∈ s, P x → ∀ y ∈ s, R x y → P y) (hx : x ∈ s) (hy : y ∈ s) (hz : z ∈ s) (hu : u ∈ s)
    (h1 : R x y) (h2 : R y z) (h3 : R z u) (h : P x) : P y ∧ P z ∧ P u := by
  have a1 := hc x hx h y hy h1
  have a2 := hc y hy a1 z hz h2
  exact ⟨a1, a2, hc z hz a2 u hu h3⟩
theorem path_copart {R : Nat → Nat → Prop} {s : List Nat} (hR : Gr R) {P : Nat → Prop} {x y z u : Nat} (hc : ∀ x ∈ s, P x → ∀ y ∈ s, CoR R x y → P y) (hx : x ∈ s) (hy : y ∈ s) (hz : z ∈ s) (hu : u ∈ s)
    (h1 : R x y) (h2 : R y z) (h3 : R z u) (h4 : ¬ R x z) (h5 : ¬ R y u) (h6 : ¬ R x u) (h : P x) : P y ∧ P z ∧ P u := by
  have n1 : x ≠ z := fun e => by subst e; exact h6 h3
  have n2 : y ≠ u := fun e => by subst e; exact h6 h1
  have n3 : x ≠ u := fun e => by subst e; exact h4 (hR.sym _ _ h3)
  have a1 := hc x hx h z hz ⟨n1, h4⟩
  have a2 := hc x hx h u hu ⟨n3, h6⟩
  exact ⟨hc u hu a2 y hy ⟨fun e => n2 e.symm, fun r => h5 (hR.sym _ _ r)⟩, a1, a2⟩
theorem parts_cover {a : List Nat} : ∀ {n wi : Nat}, wi < 4294967296 → popN wi < n → ∀ i, wi.testBit i = true → ∃ P ∈ partsF a n wi, P.testBit i = true
  | 0, _, _, h, _, _ => by omega
  | n + 1, wi, hw, h, i, hi => by
    rw [partsF]
    by_cases h0 : wi = 0
    · subst h0; simp at hi
    · rw [if_neg h0]
      have hc := ctz_bit h0 hw
      have hr := reachN_lt a wi (Lib.ctz 32 wi)
      by_cases hir : (reachN a wi (Lib.ctz 32 wi)).testBit i = true
      · exact ⟨_, List.mem_cons_self, hir⟩
      · have hs := pop_splitC hw hr (fun i hi => reach_sub hw hc hi)
        have hp : 0 < popN (reachN a wi (Lib.ctz 32 wi)) := by
          have h1 := reach_start (a := a) hw (bit_lt_of (n := 32) hw hc)
          have := popN_lt (a := 0) hr (fun i hi => by rw [Nat.zero_testBit] at hi; cases hi) h1 (Nat.zero_testBit _)
          omega
        obtain ⟨P, hP, hPi⟩ := parts_cover (a := a) (n := n) (Nat.lt_of_le_of_lt (andN_le wi (reachN a wi (Lib.ctz 32 wi))) hw) (by omega) i (by
          rw [testBit_andN hw hr, hi]; simpa using hir)
        exact ⟨P, List.mem_cons_of_mem _ hP, hPi⟩
theorem parts_closed {a : List Nat} : ∀ {n wi : Nat}, wi < 4294967296 → SymN a wi → ∀ P ∈ partsF a n wi, ClosedN a wi P
  | 0, _, _, _, P, h => by simp [partsF] at h
  | n + 1, wi, hw, hsy, P, h => by
    rw [partsF] at h
    split at h
    · cases h
    · rename_i h0
      have hc := ctz_bit h0 hw
      have hv := bit_lt_of (n := 32) hw hc
      have hr := reachN_lt a wi (Lib.ctz 32 wi)
      rcases List.mem_cons.1 h with rfl | h
      · exact reach_closed hw hv
      · have hA := Nat.lt_of_le_of_lt (andN_le wi (reachN a wi (Lib.ctz 32 wi))) hw
        have sub : ∀ i, (andN wi (reachN a wi (Lib.ctz 32 wi))).testBit i = true → wi.testBit i = true ∧ (reachN a wi (Lib.ctz 32 wi)).testBit i = false := fun i hi => by
          rw [testBit_andN hw hr, Bool.and_eq_true] at hi
          exact ⟨hi.1, by simpa using hi.2⟩
        have ih := parts_closed hA (fun x y hx hy hb => hsy x y (sub x hx).1 (sub y hy).1 hb) P h
        have hPs := (part_pos hA h).2.2
        intro x hx u hu hb
        have hxr := sub x (hPs x hx)
        refine ih x hx u ?_ hb
        rw [testBit_andN hw hr, hu]
        cases hur : (reachN a wi (Lib.ctz 32 wi)).testBit u
        · rfl
        · have := reach_closed hw hv u hur x hxr.1 (hsy x u hxr.1 hu hb)
          rw [hxr.2] at this; cases this
/-- One part: nothing parts the set. -/
theorem conn_one {a : List Nat} {wi : Nat} (hw : wi < 4294967296) (hsy : SymN a wi) (h : (partsN a wi).length = 1) {R : Nat → Nat → Prop} (hR : ∀ x y, wi.testBit x = true → wi.testBit y = true → (R x y ↔ (a.getD x 0).testBit y = true)) : ConnR R (bitsN wi) := by
  have h0 : wi ≠ 0 := fun e => by subst e; rw [partsN_zero] at h; cases h
  have hre := (parts_one hw h0).1 h
  have hc := ctz_bit h0 hw
  have hv := bit_lt_of (n := 32) hw hc
  intro M ⟨x0, hx0, hM0⟩ hcl x hx
  rw [mem_bitsN hw] at hx hx0
  have mask : ∀ N : Nat → Prop, ∃ K : Nat, ∀ i, (K.testBit i = true ↔ i < 32 ∧ N i) := fun N => by
    classical
    refine ⟨maskL ((rangeI 32).filter fun x => decide (N x.toNat)), fun i => ?_⟩
    rw [testBit_maskL (fun v hv => by have := mem_rangeI.1 (List.mem_filter.1 hv).1; omega), decide_eq_true_eq, List.mem_filter, mem_rangeI]
    simp only [Int.toNat_natCast, decide_eq_true_eq]
    constructor
    · rintro ⟨⟨_, h1⟩, h2⟩; exact ⟨by omega, h2⟩
    · rintro ⟨h1, h2⟩; exact ⟨⟨by omega, by omega⟩, h2⟩
  have i32 : ∀ j, wi.testBit j = true → j < 32 := fun j hj => bit_lt_of (n := 32) hw hj
  have all : ∀ N : Nat → Prop, (∀ x, wi.testBit x = true → N x → ∀ y, wi.testBit y = true → R x y → N y) → N (Lib.ctz 32 wi) → ∀ i, wi.testBit i = true → N i := fun N hN hc0 i hi => by
    obtain ⟨K, hK⟩ := mask fun i => wi.testBit i = true ∧ N i
    have hKc : ClosedN a wi K := fun x hx u hu hb => by
      obtain ⟨_, hxw, hxN⟩ := (hK x).1 hx
      exact (hK u).2 ⟨i32 u hu, hu, hN x hxw hxN u hu ((hR x u hxw hu).2 hb)⟩
    have := reach_least hw hv hKc ((hK _).2 ⟨hv, hc, hc0⟩) (i := i) (by rw [hre]; exact hi)
    exact ((hK i).1 this).2.2
  have hcl2 : ∀ x, wi.testBit x = true → M x → ∀ y, wi.testBit y = true → R x y → M y := fun x hx hM y hy r => hcl x ((mem_bitsN hw).2 hx) hM y ((mem_bitsN hw).2 hy) r
  by_cases hMc : M (Lib.ctz 32 wi)
  · exact all M hcl2 hMc x hx
  · exact absurd hM0 (all (fun x => ¬ M x) (fun x hx hn y hy r hMy => hn (hcl2 y hy hMy x hx ((hR y x hy hx).2 (hsy x y hx hy ((hR x y hx hy).1 r))))) hMc x0 hx0)
/-- The edges of a graph. -/
def EdgeR (g : List (List Int)) (x y : Nat) : Prop := x < g.length ∧ y < g.length ∧ (y : Int) ∈ g.getD x []
theorem edgeR_gr {g : List (List Int)} (hg : GOk g) : Gr (EdgeR g) := ⟨fun x y h => ⟨h.2.1, h.1, (edge_symm hg h.1 h.2.1).1 h.2.2⟩, fun x h => by
  have := hg.irrefl x h.1
  have h2 := h.2.2
  have h1 := h.1
  simp [h1] at h2
  exact this h2⟩
theorem edge_a {g : List (List Int)} (hg : GOk g) {s : Nat} (hs : s < 2 ^ g.length) (x y : Nat) (hx : s.testBit x = true) (hy : s.testBit y = true) : EdgeR g x y ↔ ((netsL g).getD x 0).testBit y = true := by
  have h1 := bit_lt_of hs hx
  have h2 := bit_lt_of hs hy
  rw [nets_bit2 hg h1, decide_eq_true_eq]
  exact ⟨fun h => h.2.2, fun h => ⟨h1, h2, h⟩⟩
theorem edge_b {g : List (List Int)} (hg : GOk g) {s : Nat} (hs : s < 2 ^ g.length) (x y : Nat) (hx : s.testBit x = true) (hy : s.testBit y = true) : CoR (EdgeR g) x y ↔ ((complN (netsL g)).getD x 0).testBit y = true := by
  have h1 := bit_lt_of hs hx
  have h2 := bit_lt_of hs hy
  have := adj_bit hg h1 h2 true
  simp only [adjN, if_true] at this
  rw [this]
  simp only [Bool.and_eq_true, decide_eq_true_eq, CoR, EdgeR]
  constructor
  · rintro ⟨h3, h4⟩
    exact ⟨fun e => h3 e.symm, by simpa using fun h => h4 ⟨h1, h2, h⟩⟩
  · rintro ⟨h3, h4⟩
    exact ⟨fun e => h3 e.symm, fun h => by have h5 := h.2.2; rw [decide_eq_true h5] at h4; cases h4⟩
theorem bitsN_nodup (s : Nat) : (bitsN s).Nodup := (bitsN_sorted s).imp fun h => Nat.ne_of_lt h
theorem two_of_path {R : Nat → Nat → Prop} {s : List Nat} (hR : Gr R) (h : HasP R s) (h1 : s.length = 1) : False := by
  obtain ⟨x, hx, y, hy, _, _, _, _, h2, _⟩ := h
  match s, h1 with
  | [v], _ =>
    simp only [List.mem_cons, List.not_mem_nil, or_false] at hx hy
    subst hx; subst hy
    exact hR.irr _ h2
theorem coParts_eq {g : List (List Int)} (hg : GOk g) {s : Nat} (hs : s < 2 ^ g.length) (hs32 : s < 4294967296) : ∃ t : Bool, coParts (netsL g) (complN (netsL g)) s = partsN (adjN (netsL g) t) s ∧ SymN (adjN (netsL g) t) s := by
  unfold coParts
  split
  · exact ⟨true, rfl, adj_sym hg hs true⟩
  · exact ⟨false, rfl, adj_sym hg hs false⟩
theorem coB_path {g : List (List Int)} (hg : GOk g) : ∀ (n s : Nat), s < 2 ^ g.length → s < 4294967296 → 0 < popN s → popN s ≤ n → (coB (netsL g) (complN (netsL g)) n s = true ↔ ¬ HasP (EdgeR g) (bitsN s))
  | 0, s, _, _, h0, hn => by omega
  | n + 1, s, hs, hs32, h0, hn => by
    have hR := edgeR_gr hg
    by_cases h1 : popN s = 1
    · rw [coB_leaf h1]
      exact ⟨fun _ h => two_of_path hR h h1, fun _ => rfl⟩
    by_cases hl : (coParts (netsL g) (complN (netsL g)) s).length = 1
    · rw [coB_one h1 hl]
      have ha : (partsN (netsL g) s).length = 1 := by
        unfold coParts at hl
        split at hl
        · assumption
        · exact hl
      have hb : (partsN (complN (netsL g)) s).length = 1 := by
        unfold coParts at hl
        rw [if_pos ha] at hl; exact hl
      refine ⟨fun h => (by cases h), fun h => absurd ?_ h⟩
      exact seinsche _ _ (bitsN s) rfl (by have : popN s = (bitsN s).length := rfl; omega) (bitsN_nodup s) hR (conn_one hs32 (adj_sym hg hs false) ha (edge_a hg hs)) (conn_one hs32 (adj_sym hg hs true) hb (edge_b hg hs))
    obtain ⟨t, hpt, hsy⟩ := coParts_eq hg hs hs32
    have hin : ∀ P ∈ coParts (netsL g) (complN (netsL g)) s, 0 < popN P ∧ P < 4294967296 ∧ ∀ i, P.testBit i = true → s.testBit i = true := fun P hP => part_in hs32 (by rw [hpt] at hP; exact hP)
    have hsum : sumP (coParts (netsL g) (complN (netsL g)) s) = popN s := by rw [hpt]; exact sumP_parts hs32
    have ih : ∀ P ∈ coParts (netsL g) (complN (netsL g)) s, (coB (netsL g) (complN (netsL g)) n P = true ↔ ¬ HasP (EdgeR g) (bitsN P)) := fun P hP => by
      obtain ⟨p1, p2, p3⟩ := hin P hP
      have := sumP_two hl (fun p hp => (hin p hp).1) hP
      exact coB_path hg n P (sub_lt hs p3) p2 p1 (by omega)
    constructor
    · intro hall hp
      rw [coB, if_neg h1, if_neg hl, List.all_eq_true] at hall
      obtain ⟨x, hx, y, hy, z, hz, u, hu, k1, k2, k3, k4, k5, k6⟩ := hp
      have hxb := (mem_bitsN hs32).1 hx
      obtain ⟨P, hP, hPx⟩ := parts_cover (a := adjN (netsL g) t) (n := 33) hs32 (by have := popN_32 s; omega) x hxb
      have hcl := parts_closed (n := 33) hs32 hsy P hP
      have hP2 : P ∈ coParts (netsL g) (complN (netsL g)) s := by rw [hpt]; exact hP
      obtain ⟨p1, p2, p3⟩ := hin P hP2
      have hthree : P.testBit y = true ∧ P.testBit z = true ∧ P.testBit u = true := by
        cases t
        · exact path_part (s := bitsN s) (P := fun i => P.testBit i = true) hR (fun x hx hPx y hy r => hcl x hPx y ((mem_bitsN hs32).1 hy) ((edge_a hg hs x y ((mem_bitsN hs32).1 hx) ((mem_bitsN hs32).1 hy)).1 r)) hx hy hz hu k1 k2 k3 hPx
        · exact path_copart (s := bitsN s) (P := fun i => P.testBit i = true) hR (fun x hx hPx y hy r => hcl x hPx y ((mem_bitsN hs32).1 hy) ((edge_b hg hs x y ((mem_bitsN hs32).1 hx) ((mem_bitsN hs32).1 hy)).1 r)) hx hy hz hu k1 k2 k3 k4 k5 k6 hPx
      exact (ih P hP2).1 (hall P hP2) ⟨x, (mem_bitsN p2).2 hPx, y, (mem_bitsN p2).2 hthree.1, z, (mem_bitsN p2).2 hthree.2.1, u, (mem_bitsN p2).2 hthree.2.2, k1, k2, k3, k4, k5, k6⟩
    · intro hno
      refine coB_all h1 hl fun j hj => (ih _ (List.getElem_mem hj)).2 fun hp => hno (hp.sub fun x hx => ?_)
      obtain ⟨p1, p2, p3⟩ := hin _ (List.getElem_mem hj)
      exact (mem_bitsN hs32).2 (p3 x ((mem_bitsN p2).1 hx))
/-- The search for the path of four: what it finds is one, and it finds one where one is. -/
theorem restR_sound0 {g : List (List Int)} (hg : GOk g) : ∀ (N d : Nat) (p : List Nat) (k : Nat), d * 20 + (g.length - k) < N → k ≤ g.length → (∀ a ∈ p, a < g.length) → p.length + d = 3 →
    (∀ r, (restR g d p k).1 = some r → pathB g r = true ∧ ∀ a ∈ r, a < g.length) ∧ ((restR g d p k).2 = false → ∀ r, (∀ a ∈ r, a < g.length) → pathB g r = true → r.length = 4 → r.take p.length = p → k ≤ r.getD p.length 0 → False)
  | 0, _, _, _, h, _, _, _ => by omega
  | N + 1, d, p, k, hN, hk, hp, hd => by
    have h16 := hg.hi
    by_cases hpp : pathB g p = true
    case neg =>
      have hpp' : pathB g p = false := by simpa using hpp
      rw [restR_no hpp']
      refine ⟨fun r h => (by cases h), fun _ r hr hb hl ht _ => hpp ?_⟩
      have hb : PathP g r := by simpa [pathB] using hb
      refine pathB_true fun i j hij hj => ?_
      have := hb i j hij (by omega)
      rw [← ht] at hj ⊢
      rw [List.length_take] at hj
      unfold pairB at this ⊢
      have e : ∀ i, i < p.length → (r.take p.length).getD i 0 = r.getD i 0 := fun i hi => by simp [List.getElem?_take, hi]
      rw [e _ (by omega), e _ (by omega)]; exact this
    by_cases hke : k = g.length
    · subst hke
      rw [restR_end]
      refine ⟨fun r h => (by cases h), fun _ r hr _ hl _ hge => ?_⟩
      have h1 : r.getD p.length 0 < g.length := by
        have : r.getD p.length 0 = r[p.length]'(by omega) := by simp [show p.length < r.length by omega]
        rw [this]; exact hr _ (List.getElem_mem _)
      omega
    have hk2 : k < g.length := by omega
    have hpk : ∀ a ∈ p ++ [k], a < g.length := fun a ha => by
      rcases List.mem_append.1 ha with h | h
      · exact hp a h
      · simp at h; omega
    have hsplit : ∀ r : List Nat, r.length = 4 → r.take p.length = p → r.getD p.length 0 = k → r.take (p ++ [k]).length = p ++ [k] := fun r hl ht hx => by
      rw [List.length_append, List.length_singleton, List.take_succ_eq_append_getElem (by omega), ht]
      congr 2
      have : r.getD p.length 0 = r[p.length]'(by omega) := by simp [show p.length < r.length by omega]
      rw [← this, hx]
    cases d with
    | zero =>
      obtain ⟨ih1, ih2⟩ := restR_sound0 hg N 0 p (k + 1) (by omega) (by omega) hp hd
      rw [restR_leaf hg hp hk2 (by omega) hpp]
      by_cases hx : pathB g (p ++ [k]) = true
      · rw [if_pos hx]
        refine ⟨fun r h => ?_, fun h => by cases h⟩
        cases h
        exact ⟨hx, hpk⟩
      · rw [if_neg hx]
        refine ⟨ih1, fun h r hr hb hl ht hge => ?_⟩
        by_cases e : r.getD p.length 0 = k
        · have := hsplit r hl ht e
          rw [List.take_of_length_le (by simp; omega)] at this
          subst this; exact hx hb
        · exact ih2 h r hr hb hl ht (by omega)
    | succ d =>
      obtain ⟨ih1, ih2⟩ := restR_sound0 hg N (d + 1) p (k + 1) (by omega) (by omega) hp hd
      obtain ⟨ih3, ih4⟩ := restR_sound0 hg N d (p ++ [k]) 0 (by omega) (by omega) hpk (by simp; omega)
      rw [restR_step hg hp hk2 (by omega) hpp]
      unfold orE
      by_cases hx : (restR g d (p ++ [k]) 0).2 = true
      · rw [if_pos hx]
        exact ⟨ih3, fun h => by rw [hx] at h; cases h⟩
      · rw [if_neg hx]
        refine ⟨ih1, fun h r hr hb hl ht hge => ?_⟩
        by_cases e : r.getD p.length 0 = k
        · exact ih4 (by simpa using hx) r hr hb hl (hsplit r hl ht e) (Nat.zero_le _)
        · exact ih2 h r hr hb hl ht (by omega)
theorem pathP_has {g : List (List Int)} {r : List Nat} (hr : ∀ a ∈ r, a < g.length) (hg : GOk g) (hb : PathP g r) (hl : r.length = 4) : HasP (EdgeR g) (bitsN (firstN g.length)) := by
  have h16 := hg.hi
  have hf : firstN g.length < 4294967296 := by have := firstN_lt hg.hi; omega
  have el : ∀ i, i < 4 → r.getD i 0 < g.length := fun i hi => by
    have : r.getD i 0 = r[i]'(by omega) := by simp [show i < r.length by omega]
    rw [this]; exact hr _ (List.getElem_mem _)
  have mem : ∀ i, i < 4 → r.getD i 0 ∈ bitsN (firstN g.length) := fun i hi => (mem_bitsN hf).2 (by rw [testBit_firstN]; simpa using el i hi)
  have pr : ∀ i k, i < k → k < 4 → (EdgeR g (r.getD i 0) (r.getD k 0) ↔ k = i + 1) := fun i k hik hk => by
    have := hb i k hik (by omega)
    unfold pairB at this
    rw [Bool.and_eq_true, beq_iff_eq] at this
    have h2 := decide_eq_decide.1 this.2
    exact ⟨fun h => h2.1 h.2.2, fun h => ⟨el _ (by omega), el _ hk, h2.2 h⟩⟩
  exact ⟨_, mem 0 (by omega), _, mem 1 (by omega), _, mem 2 (by omega), _, mem 3 (by omega), (pr 0 1 (by omega) (by omega)).2 rfl, (pr 1 2 (by omega) (by omega)).2 rfl, (pr 2 3 (by omega) (by omega)).2 rfl,
    fun h => by have := (pr 0 2 (by omega) (by omega)).1 h; omega, fun h => by have := (pr 1 3 (by omega) (by omega)).1 h; omega, fun h => by have := (pr 0 3 (by omega) (by omega)).1 h; omega⟩
theorem has_pathP {g : List (List Int)} (hg : GOk g) {s : List Nat} (h : HasP (EdgeR g) s) : ∃ r : List Nat, r.length = 4 ∧ (∀ a ∈ r, a < g.length) ∧ PathP g r := by
  have hR := edgeR_gr hg
  obtain ⟨x, hx, y, hy, z, hz, u, hu, h1, h2, h3, h4, h5, h6⟩ := h
  have n1 : x ≠ z := fun e => by subst e; exact h6 h3
  have n2 : y ≠ u := fun e => by subst e; exact h6 h1
  have n3 : x ≠ u := fun e => by subst e; exact h4 (hR.sym _ _ h3)
  have ne : ∀ a b, EdgeR g a b → a ≠ b := fun a b r e => by subst e; exact hR.irr _ r
  have k1 : ¬ ((z : Int) ∈ g.getD x []) := fun h => h4 ⟨h1.1, h2.2.1, h⟩
  have k2 : ¬ ((u : Int) ∈ g.getD y []) := fun h => h5 ⟨h2.1, h3.2.1, h⟩
  have k3 : ¬ ((u : Int) ∈ g.getD x []) := fun h => h6 ⟨h1.1, h3.2.1, h⟩
  refine ⟨[x, y, z, u], rfl, fun a ha => ?_, fun i k hik hk => ?_⟩
  · simp only [List.mem_cons, List.not_mem_nil, or_false] at ha
    rcases ha with rfl | rfl | rfl | rfl
    · exact h1.1
    · exact h1.2.1
    · exact h2.2.1
    · exact h3.2.1
  · have hk4 : k < 4 := by simpa using hk
    have : (i = 0 ∧ k = 1) ∨ (i = 0 ∧ k = 2) ∨ (i = 0 ∧ k = 3) ∨ (i = 1 ∧ k = 2) ∨ (i = 1 ∧ k = 3) ∨ (i = 2 ∧ k = 3) := by omega
    unfold pairB
    rcases this with ⟨rfl, rfl⟩ | ⟨rfl, rfl⟩ | ⟨rfl, rfl⟩ | ⟨rfl, rfl⟩ | ⟨rfl, rfl⟩ | ⟨rfl, rfl⟩
    · have a := h1.2.2; have b := ne _ _ h1; simp [-List.getD_eq_getElem?_getD] at a ⊢; exact ⟨b, a⟩
    · simp [-List.getD_eq_getElem?_getD] at k1 ⊢; exact ⟨n1, k1⟩
    · simp [-List.getD_eq_getElem?_getD] at k3 ⊢; exact ⟨n3, k3⟩
    · have a := h2.2.2; have b := ne _ _ h2; simp [-List.getD_eq_getElem?_getD] at a ⊢; exact ⟨b, a⟩
    · simp [-List.getD_eq_getElem?_getD] at k2 ⊢; exact ⟨n2, k2⟩
    · have a := h3.2.2; have b := ne _ _ h3; simp [-List.getD_eq_getElem?_getD] at a ⊢; exact ⟨b, a⟩
/-- Never both, and one of them. -/
theorem four_or_tree {g : List (List Int)} (hg : GOk g) : cographB g = (fourF g).isNone := by
  have hgb := gokB_true hg
  have hf : firstN g.length < 4294967296 := by have := firstN_lt hg.hi; omega
  have hlo := hg.lo
  have hpf := pop_firstN hg.hi
  have h1 := coB_path hg g.length (firstN g.length) (firstN_two g.length) hf (by omega) (by omega)
  obtain ⟨s1, s2⟩ := restR_sound0 hg _ 3 [] 0 (Nat.lt_succ_self _) (by omega) (fun a h => by cases h) rfl
  unfold cographB fourF
  rw [hgb, if_pos rfl, Bool.true_and, fitO_four]
  have h4 := four_any g
  cases hr : (restR g 3 [] 0).1 with
  | none =>
    rw [hr] at h4
    rw [h1.2 fun hp => ?_]; rfl
    obtain ⟨r, hl, hrl, hpp⟩ := has_pathP hg hp
    exact s2 h4 r hrl (pathB_true hpp) hl rfl (Nat.zero_le _)
  | some r =>
    obtain ⟨hb, hrl⟩ := s1 r hr
    have hl := four_len (g := g) (by rw [fitO_four]; exact hr)
    have : ¬ (coB (netsL g) (complN (netsL g)) g.length (firstN g.length) = true) := fun h => h1.1 h (pathP_has hrl hg (by simpa [pathB] using hb) hl)
    simpa using this
theorem four_path {g : List (List Int)} (hg : GOk g) {r : List Nat} (h : fourF g = some r) : r.length = 4 ∧ (∀ a ∈ r, a < g.length) ∧ PathP g r := by
  have hgb := gokB_true hg
  unfold fourF at h
  rw [if_pos hgb] at h
  have hl := four_len h
  rw [fitO_four] at h
  obtain ⟨s1, s2⟩ := restR_sound0 hg _ 3 [] 0 (Nat.lt_succ_self _) (by omega) (fun a h => by cases h) rfl
  obtain ⟨hb, hrl⟩ := s1 r h
  exact ⟨hl, hrl, by simpa [pathB] using hb⟩
end Go.Proofs.YtplohdnakllbiaaDoor
