/- ModularTree of both; the law. -/
import Derived.Test.YthpbeiihlembnaaDoorMdU3
namespace Go.Proofs.YthpbeiihlembnaaDoor
open Go.RowKit
theorem pop_firstN {n : Nat} (hn : n ≤ 16) : popN (firstN n) = n := by rw [popN_I, ← rangeI_bits hn, rangeI_len]
def KidsLe (t : List PNode) : Prop := ∀ p ∈ t, p.kids.length ≤ 33
theorem KidsLe.snoc {t : List PNode} {p : PNode} (h : KidsLe t) (hp : p.kids.length ≤ 33) : KidsLe (t ++ [p]) := fun q hq => by
  rcases List.mem_append.1 hq with h1 | h1
  · exact h q h1
  · rw [List.mem_singleton] at h1; rw [h1]; exact hp
theorem coKids_le {f : Nat → List PNode → Option (List PNode)} : ∀ {ps : List Nat}, (∀ p ∈ ps, ∀ t r, f p t = some r → KidsLe t → KidsLe r) → ∀ {t t' : List PNode} {ks ks' : List Int}, coKids f ps t ks = some (t', ks') → KidsLe t → KidsLe t' ∧ ks'.length = ks.length + ps.length
  | [], _, t, t', ks, ks', h, ht => by
    simp only [coKids, Option.some.injEq, Prod.mk.injEq] at h
    obtain ⟨rfl, rfl⟩ := h
    exact ⟨ht, rfl⟩
  | p :: ps, hf, t, t', ks, ks', h, ht => by
    rw [coKids] at h
    cases hp : f p t with
    | none => rw [hp] at h; cases h
    | some t1 =>
      rw [hp] at h
      obtain ⟨h1, h2⟩ := coKids_le (fun q hq => hf q (List.mem_cons_of_mem _ hq)) h (hf p (by simp) t t1 hp ht)
      exact ⟨h1, by rw [h2]; simp; omega⟩
theorem mdT_le {g : List (List Int)} (hg : GOk g) : ∀ {n s : Nat} {t r : List PNode}, s < 2 ^ g.length → 0 < popN s → mdT g n s t = some r → KidsLe t → KidsLe r
  | 0, _, _, _, _, _, h, _ => by rw [mdT] at h; cases h
  | n + 1, s, t, r, hs, hp, h, ht => by
    by_cases h1 : popN s = 1
    · rw [mdT_leaf h1, Option.some.injEq] at h
      subst h
      exact ht.snoc (by simp)
    · have hok := mdParts_ok hg hs (by omega)
      cases hk : coKids (mdT g n) (mdParts g s) t [] with
      | none => rw [mdT_kids_none h1 hk] at h; cases h
      | some x =>
        obtain ⟨t2, ks⟩ := x
        rw [mdT_kids h1 hk, Option.some.injEq] at h
        subst h
        obtain ⟨h3, h4⟩ := coKids_le (fun p hp t r => mdT_le hg (sub_lt hs (hok.in_ p hp).2.2.1) (hok.in_ p hp).1) hk ht
        have := hok.len
        exact h3.snoc (by simp at h4; simp only; omega)
noncomputable def mdF (g : List (List Int)) : Option (List PNode) := if gokB g = true then mdT g g.length (firstN g.length) [] else none
theorem mdF_small {g : List (List Int)} : SmallP ((mdF g).getD []) 1048576 := by
  unfold mdF
  split
  case isTrue hgg =>
    have hg := gokB_iff.1 hgg
    have h16 := hg.hi
    have hlo := hg.lo
    cases h : mdT g g.length (firstN g.length) [] with
    | none => exact ⟨by simp, fun i hi => by simp at hi⟩
    | some r =>
      have hpf := pop_firstN h16
      have h1 := mdT_le hg (firstN_two g.length) (by omega) h (fun p hp => by cases hp)
      have h2 := mdT_len hg (firstN_two g.length) (by omega) h
      simp only [Option.getD_some]
      exact ⟨by simp at h2; omega, fun i hi _ => by have := h1 _ (List.getElem_mem hi); omega⟩
  case isFalse => exact ⟨by simp, fun i hi => by simp at hi⟩
/-- What ModularTree returns. -/
def TreeR (EO EI : TypeId) (o : Option (List PNode)) (w : World) (e : Ending) (w' : World) : Prop :=
  ∃ r, e = .returned (.tuple #[r, .bool o.isSome]) ∧ OwnP w' w.heap.size w'.heap.size EO EI r (o.getD []) ∧ Below w.heap.size w w'
set_option maxRecDepth 100000 in
set_option maxHeartbeats 4000000 in
theorem implModularTree_t {S : Nat → Prop} {v : Value} {g : List (List Int)} {w : World} (ht : Tab w) (hw0 : 0 < w.heap.size) (hv : SlR S w v g) :
    Calls Tryd.prog 51 #[.agg #[v]] w (TreeR 126 2 (mdF g) w) := by
  have hq0 : Below w.heap.size w (w.alloc (.cells #[v] 29)) := (Below.refl _ _).alloc (Nat.le_refl _) _
  obtain ⟨va, vc, rfl⟩ := hv.slice
  have hgo := implGraphOk_any _ _ _ (hv.below hq0 (Nat.le_refl _))
  by_cases hgg : gokB g = true
  case neg =>
    have hgg' : gokB g = false := by simpa using hgg
    rw [hgg'] at hgo
    have HE := Lib.hid (show mdF g = none by simp [mdF, hgg'])
    clear hgg hgg'
    go_enter Tryd.func51, Tryd.ntmps51
    go_wp2_with fail
    refine hgo.mono ?_
    rintro e w1 ⟨rfl, hb1⟩
    go_wp2
    go_ret2
    rw [HE.out]
    exact ⟨_, rfl, OwnP.nil _ _ _ _ _, hq0.trans (hb1.mono hq0.size)⟩
  rw [hgg] at hgo
  have hg := gokB_iff.1 hgg
  have h16 := hg.hi
  have hlo := hg.lo
  obtain ⟨t0, ht0⟩ := mdT_some hg (n := g.length) [] (firstN_two g.length) (by rw [pop_firstN h16]; omega) (by rw [pop_firstN h16]; exact Nat.le_refl _)
  have HE := Lib.hid (show mdF g = some t0 by simp [mdF, hgg, ht0])
  have hpf := pop_firstN h16
  have hf2 := firstN_two g.length
  have hnl := netsL_len g
  have hcl := complN_len (netsL g)
  have hc32 := complN_lt (a := netsL g) (by omega)
  clear hgg
  go_enter Tryd.func51, Tryd.ntmps51
  go_wp2_with fail
  refine hgo.mono ?_
  rintro e w1 ⟨rfl, hb1⟩
  have hq1 := hq0.trans (hb1.mono hq0.size)
  have c3 : w1.cell? ⟨w.heap.size, 0, none⟩ = some (.slice va g.length vc) := (hb1.cell (p := ⟨w.heap.size, 0, none⟩) (by simp; try omega)).trans (by simp [go_sem])
  clear hgo
  go_wp2_with fail
  refine (netsOf_any _ _ _ (hv.below hq1 (Nat.le_refl _)) hg).mono ?_
  rintro e w2 ⟨x1, rfl, hx1, hb2⟩
  have hq2 := hq1.trans (hb2.mono hq1.size)
  have hxi := Own.ints (xs := natsI (netsL g)) hx1 (by omega)
  obtain ⟨xa, xc, rfl⟩ := hx1.isSlice
  go_wp2_with fail
  refine (complement_any hxi (by omega) (netsL_lt hg)).mono ?_
  rintro e w3 ⟨x2, rfl, hx2, hb3⟩
  have hq3 := hq2.trans (hb3.mono hq2.size)
  have hxi3 := (hxi.below hb3 (Nat.le_refl _)).low3
  have hyi3 := (Own.ints (xs := natsI (complN (netsL g))) hx2 (by omega)).low3
  obtain ⟨ya, yc, rfl⟩ := hx2.isSlice
  have hadd := addModTree_t hg g.length (firstN g.length) (.slice none 0 0) [] w3.heap.size w3 _ _ (fun _ => False) (by omega) (by omega) hf2 hxi3 hyi3 (OwnX.nil _ _ _ _ _) (by simp; omega) (Nat.le_refl _) (by have := hq3.size; omega) (ht.below hq3 (Nat.le_refl _)) (fun b hb => by cases hb) (fun b hb => ⟨hb.2, by simp [Value.ownBlock]⟩) (fun b hb => ⟨hb.2, by simp [Value.ownBlock]⟩)
  rw [ht0, Option.getD_some, hnl] at hadd
  rw [hnl]
  clear hnl hpf hcl ht0
  go_wp2_with (go_at_call 76; refine (allOf_any _ _ _ _ h16).mono ?_; rintro e w' ⟨rfl, rfl⟩)
  refine hadd.mono ?_
  rintro e w4 ⟨r, rfl, hr, -, hk4⟩
  clear hadd
  go_wp2
  go_ret2
  rw [HE.out]
  exact ⟨_, rfl, hr.ownP.weak hq3.size (Nat.le_refl _), hk4.below hq3 hq3.size (fun b hb => by simp [Value.ownBlock] at hb)⟩
set_option maxRecDepth 100000 in
set_option maxHeartbeats 4000000 in
theorem specModularTree_t {S : Nat → Prop} {v : Value} {g : List (List Int)} {w : World} (hv : SlR S w v g) :
    Calls Tryd.prog 50 #[.agg #[v]] w (TreeR 126 2 (mdF g) w) := by
  have hq0 : Below w.heap.size w (w.alloc (.cells #[v] 29)) := (Below.refl _ _).alloc (Nat.le_refl _) _
  obtain ⟨va, vc, rfl⟩ := hv.slice
  have hgo := specGraphOk_any _ _ _ (hv.below hq0 (Nat.le_refl _))
  by_cases hgg : gokB g = true
  case neg =>
    have hgg' : gokB g = false := by simpa using hgg
    rw [hgg'] at hgo
    have HE := Lib.hid (show mdF g = none by simp [mdF, hgg'])
    clear hgg hgg'
    go_enter Tryd.func50, Tryd.ntmps50
    go_wp2_with fail
    refine hgo.mono ?_
    rintro e w1 ⟨rfl, hb1⟩
    have hq1 := hq0.trans (hb1.mono hq0.size)
    have hem : OwnX (fun _ => False) (w1.alloc (.cells #[] 126)) w.heap.size 126 2 (.slice (some ⟨w1.heap.size, 0, none⟩) 0 0) [] := OwnX.empty (Own.weak (World.ownsRow_lit (base := w1.heap.size) (e := 126) (size := 3) w1 #[] 0 (Nat.le_refl _) (by unfold maxLen; omega) rfl) hq1.size) (fun _ _ h => h)
    go_wp2
    go_ret2
    rw [HE.out]
    exact ⟨_, rfl, hem.ownP, hq1.alloc hq1.size _⟩
  rw [hgg] at hgo
  have hg := gokB_iff.1 hgg
  have h16 := hg.hi
  have hlo := hg.lo
  obtain ⟨t0, ht0⟩ := mdT_some hg (n := g.length) [] (firstN_two g.length) (by rw [pop_firstN h16]; omega) (by rw [pop_firstN h16]; exact Nat.le_refl _)
  have HE := Lib.hid (show mdF g = some t0 by simp [mdF, hgg, ht0])
  have hpf := pop_firstN h16
  have hf2 := firstN_two g.length
  have hb0 : ((g.length : Int) == 0) = false := by rw [beq_eq_false_iff_ne]; omega
  have hb0n : (g.length == 0) = false := by rw [beq_eq_false_iff_ne]; omega
  have hg0 : ¬ g.length = 0 := by omega
  have hrb := rangeI_bits h16
  clear hgg
  have htree := fun (w3 : World) (hb : Below w.heap.size w w3) (S2 : Nat → Prop) (u tv : Value) (hu : SlI S2 w3 .i64 u (bitsI (firstN g.length))) (B : Nat) (ht : Own w3 B 126 3 tv 0 []) (hB : B ≤ w3.heap.size) (hBw : w.heap.size ≤ B) (hS2 : ∀ b, S2 b → tv.ownBlock ≠ some b) =>
    l17Tree_t hg g.length (firstN g.length) u tv [] B w3 _ _ (fun _ => False) (by omega) (by omega) hf2 ((hv.low3).below hb (Nat.le_refl _)) hu.low3 (OwnX.empty ht (fun _ _ h => h)) (by simp; omega) hB (fun b h => by cases h) (fun b h => ⟨Nat.lt_of_lt_of_le h.2 hb.size, fun e => by have := (ht.lt b e).1; have := h.2; omega⟩) (fun b h => ⟨h.2, hS2 b h.1⟩)
  simp only [ht0, Option.getD_some] at htree
  clear ht0
  go_enter Tryd.func50, Tryd.ntmps50
  go_wp2_with fail
  refine hgo.mono ?_
  rintro e w1 ⟨rfl, hb1⟩
  have hq1 := hq0.trans (hb1.mono hq0.size)
  have c3 : w1.cell? ⟨w.heap.size, 0, none⟩ = some (.slice va g.length vc) := (hb1.cell (p := ⟨w.heap.size, 0, none⟩) (by simp; try omega)).trans (by simp [go_sem])
  clear hgo
  go_wp2
  refine wp_region_held_drew (S := (fun w' => w'.cell? ⟨w.heap.size, 0, none⟩ = some (.slice va g.length vc))) (by kernel_rfl) ?_ (fun hHeld => ?_)
  · first | exact c3 | exact cg
  have hqc := hq1.drew
  generalize w1.drew = wd at hqc hHeld ⊢
  have cg := hHeld
  refine wpAnyH_take (i := 0) (v := ?v1) (by simp only [List.getElem?_toArray, List.getElem?_cons_zero]; exact rfl) (by kernel_rfl) (by kernel_rfl) (by kernel_rfl) (by intro _ _ _ h; exact h) (Or.inl ⟨by rfl, ?y1⟩) hHeld ?_
  case y1 => (intro w hSw; (try dsimp only at hSw); go_simp; try (with_reducible rfl))
  try simp only [Act.put, List.setIfInBounds_toArray, List.set_cons_zero, List.set_cons_succ]
  refine wpAnyH_take (i := 1) (v := ?v2) (by simp only [List.getElem?_toArray, List.getElem?_cons_succ, List.getElem?_cons_zero]; exact rfl) (by kernel_rfl) (by kernel_rfl) (by kernel_rfl) (by intro _ _ _ h; exact h) (Or.inl ⟨by rfl, ?y2⟩) hHeld ?_
  case y2 => (intro w hSw; (try dsimp only at hSw); go_simp; try (with_reducible rfl))
  try simp only [Act.put, List.setIfInBounds_toArray, List.set_cons_zero, List.set_cons_succ]
  refine wpAnyH_ready (rs := [2, 3]) (by kernel_rfl) (by simp) ?_
  refine (AllReadyH.cons (by simp only [List.getElem?_toArray, List.getElem?_cons_succ, List.getElem?_cons_zero]; exact rfl) (fun K hK => ?b3_2) (AllReadyH.cons (by simp only [List.getElem?_toArray, List.getElem?_cons_succ, List.getElem?_cons_zero]; exact rfl) (fun K hK => ?b3_3) AllReadyH.nil))
  case b3_2 =>
    go_simp
    refine (l16All_any _ _ _ (hv.below hqc (Nat.le_refl _)) (by omega)).mono ?_
    rintro e wn ⟨x1, rfl, hx1, hbn⟩
    have hx2 := Own.ints (xs := rangeI g.length) hx1 (by omega)
    rw [hrb] at hx2
    have hxl := hx1.lt
    try (have hlit := hlit.below hbn (Nat.le_refl _))
    try (have hx3 : ∀ b, x1.ownBlock = some b → (Value.slice (some ⟨nb, 0, none⟩) 0 0).ownBlock ≠ some b := fun b h e => (by have h5 := (hxl b h).1; simp [Value.ownBlock] at e; omega))
    have hqc := hqc.trans (hbn.mono hqc.size)
    have cg := (hbn.cell (cell_lt cg)).trans cg
    try (have hnl := Nat.lt_of_lt_of_le hnl hbn.size)
    obtain ⟨wd, rfl⟩ : ∃ wx : World, wx = wn := ⟨_, rfl⟩
    try dsimp only
    refine hK.out _ _ ?h4 (fun hHeld => ?_)
    case h4 => first | exact c3 | exact cg
    clear hK K
    try simp only [Act.put, List.setIfInBounds_toArray, List.set_cons_zero, List.set_cons_succ]
    refine wpAnyH_ready (rs := [3]) (by kernel_rfl) (by simp) ?_
    refine AllReadyH.cons (by simp only [List.getElem?_toArray, List.getElem?_cons_succ, List.getElem?_cons_zero]; exact rfl) (fun K hK => ?_) AllReadyH.nil
    go_simp
    have hbn : Below wd.heap.size wd (wd.alloc (.cells #[] 126)) := (Below.refl _ _).alloc (Nat.le_refl _) _
    have hlit : Own (wd.alloc (.cells #[] 126)) wd.heap.size 126 3 (.slice (some ⟨wd.heap.size, 0, none⟩) 0 0) 0 [] := World.ownsRow_lit (base := wd.heap.size) (e := 126) (size := 3) wd #[] 0 (Nat.le_refl _) (by unfold maxLen; omega) rfl
    have hnl : wd.heap.size < (wd.alloc (.cells #[] 126)).heap.size := (by simp)
    have hnb : w.heap.size < wd.heap.size := cell_lt cg
    try (have hx3 : ∀ b, x1.ownBlock = some b → (Value.slice (some ⟨wd.heap.size, 0, none⟩) 0 0).ownBlock ≠ some b := fun b h e => (by have h5 := (hxl b h).2; simp [Value.ownBlock] at e; omega))
    try (have hx2 := hx2.below hbn (Nat.le_refl _))
    have hqc := hqc.trans (hbn.mono hqc.size)
    have cg := (hbn.cell (cell_lt cg)).trans cg
    generalize (wd.alloc (.cells #[] 126)) = wn at *
    generalize wd.heap.size = nb at *
    obtain ⟨wd, rfl⟩ : ∃ wx : World, wx = wn := ⟨_, rfl⟩
    try dsimp only
    refine hK.out _ _ ?h6 (fun hHeld => ?_)
    case h6 => first | exact c3 | exact cg
    clear hK K
    try simp only [Act.put, List.setIfInBounds_toArray, List.set_cons_zero, List.set_cons_succ]
    refine wpAnyH_ready (rs := [4]) (by kernel_rfl) (by simp) ?_
    refine AllReadyH.cons (by simp only [List.getElem?_toArray, List.getElem?_cons_succ, List.getElem?_cons_zero]; exact rfl) (fun K hK => ?_) AllReadyH.nil
    go_simp
    refine (htree wd hqc _ _ _ hx2 nb hlit (Nat.le_of_lt hnl) (Nat.le_of_lt hnb) hx3).mono ?_
    rintro e wn ⟨r, rfl, hr, -, hk4⟩
    have hrp := hr.ownP.weak (Nat.le_of_lt hnb) (Nat.le_refl _)
    have hqf := hk4.below hqc hqc.size (fun b hb => (by simp [Value.ownBlock] at hb; omega))
    have cg := (World.cell?_of_block (a := ⟨w.heap.size, 0, none⟩) (hk4.2.2.2.2 w.heap.size (cell_lt cg) (fun e => by simp [Value.ownBlock] at e; omega))).trans cg
    try dsimp only
    refine hK.out _ _ ?h8 (fun hHeld => ?_)
    case h8 => first | exact c3 | exact cg
    clear hK K
    try simp only [Act.put, List.setIfInBounds_toArray, List.set_cons_zero, List.set_cons_succ]
    refine wpAnyH_take (i := 5) (v := ?v9) (by simp only [List.getElem?_toArray, List.getElem?_cons_succ, List.getElem?_cons_zero]; exact rfl) (by kernel_rfl) (by kernel_rfl) (by kernel_rfl) (by intro _ _ _ h; exact h) (Or.inl ⟨by rfl, ?y9⟩) hHeld ?_
    case y9 => (intro w hSw; (try dsimp only at hSw); go_simp; try (with_reducible rfl))
    try simp only [Act.put, List.setIfInBounds_toArray, List.set_cons_zero, List.set_cons_succ]
    refine wpAnyH_take (i := 6) (v := ?v10) (by simp only [List.getElem?_toArray, List.getElem?_cons_succ, List.getElem?_cons_zero]; exact rfl) (by kernel_rfl) (by kernel_rfl) (by kernel_rfl) (by intro _ _ _ h; exact h) (Or.inl ⟨by rfl, ?y10⟩) hHeld ?_
    case y10 => (intro w hSw; (try dsimp only at hSw); go_simp; try (with_reducible rfl))
    try simp only [Act.put, List.setIfInBounds_toArray, List.set_cons_zero, List.set_cons_succ]
    refine wpAnyH_done (by kernel_rfl) ?_ _
    go_wp2
    go_ret2
    rw [HE.out]
    exact ⟨_, rfl, hrp, hqf⟩
  case b3_3 =>
    go_simp
    have hbn : Below wd.heap.size wd (wd.alloc (.cells #[] 126)) := (Below.refl _ _).alloc (Nat.le_refl _) _
    have hlit : Own (wd.alloc (.cells #[] 126)) wd.heap.size 126 3 (.slice (some ⟨wd.heap.size, 0, none⟩) 0 0) 0 [] := World.ownsRow_lit (base := wd.heap.size) (e := 126) (size := 3) wd #[] 0 (Nat.le_refl _) (by unfold maxLen; omega) rfl
    have hnl : wd.heap.size < (wd.alloc (.cells #[] 126)).heap.size := (by simp)
    have hnb : w.heap.size < wd.heap.size := cell_lt cg
    try (have hx3 : ∀ b, x1.ownBlock = some b → (Value.slice (some ⟨wd.heap.size, 0, none⟩) 0 0).ownBlock ≠ some b := fun b h e => (by have h5 := (hxl b h).2; simp [Value.ownBlock] at e; omega))
    try (have hx2 := hx2.below hbn (Nat.le_refl _))
    have hqc := hqc.trans (hbn.mono hqc.size)
    have cg := (hbn.cell (cell_lt cg)).trans cg
    generalize (wd.alloc (.cells #[] 126)) = wn at *
    generalize wd.heap.size = nb at *
    obtain ⟨wd, rfl⟩ : ∃ wx : World, wx = wn := ⟨_, rfl⟩
    try dsimp only
    refine hK.out _ _ ?h11 (fun hHeld => ?_)
    case h11 => first | exact c3 | exact cg
    clear hK K
    try simp only [Act.put, List.setIfInBounds_toArray, List.set_cons_zero, List.set_cons_succ]
    refine wpAnyH_ready (rs := [2]) (by kernel_rfl) (by simp) ?_
    refine AllReadyH.cons (by simp only [List.getElem?_toArray, List.getElem?_cons_succ, List.getElem?_cons_zero]; exact rfl) (fun K hK => ?_) AllReadyH.nil
    go_simp
    refine (l16All_any _ _ _ (hv.below hqc (Nat.le_refl _)) (by omega)).mono ?_
    rintro e wn ⟨x1, rfl, hx1, hbn⟩
    have hx2 := Own.ints (xs := rangeI g.length) hx1 (by omega)
    rw [hrb] at hx2
    have hxl := hx1.lt
    try (have hlit := hlit.below hbn (Nat.le_refl _))
    try (have hx3 : ∀ b, x1.ownBlock = some b → (Value.slice (some ⟨nb, 0, none⟩) 0 0).ownBlock ≠ some b := fun b h e => (by have h5 := (hxl b h).1; simp [Value.ownBlock] at e; omega))
    have hqc := hqc.trans (hbn.mono hqc.size)
    have cg := (hbn.cell (cell_lt cg)).trans cg
    try (have hnl := Nat.lt_of_lt_of_le hnl hbn.size)
    obtain ⟨wd, rfl⟩ : ∃ wx : World, wx = wn := ⟨_, rfl⟩
    try dsimp only
    refine hK.out _ _ ?h13 (fun hHeld => ?_)
    case h13 => first | exact c3 | exact cg
    clear hK K
    try simp only [Act.put, List.setIfInBounds_toArray, List.set_cons_zero, List.set_cons_succ]
    refine wpAnyH_ready (rs := [4]) (by kernel_rfl) (by simp) ?_
    refine AllReadyH.cons (by simp only [List.getElem?_toArray, List.getElem?_cons_succ, List.getElem?_cons_zero]; exact rfl) (fun K hK => ?_) AllReadyH.nil
    go_simp
    refine (htree wd hqc _ _ _ hx2 nb hlit (Nat.le_of_lt hnl) (Nat.le_of_lt hnb) hx3).mono ?_
    rintro e wn ⟨r, rfl, hr, -, hk4⟩
    have hrp := hr.ownP.weak (Nat.le_of_lt hnb) (Nat.le_refl _)
    have hqf := hk4.below hqc hqc.size (fun b hb => (by simp [Value.ownBlock] at hb; omega))
    have cg := (World.cell?_of_block (a := ⟨w.heap.size, 0, none⟩) (hk4.2.2.2.2 w.heap.size (cell_lt cg) (fun e => by simp [Value.ownBlock] at e; omega))).trans cg
    try dsimp only
    refine hK.out _ _ ?h15 (fun hHeld => ?_)
    case h15 => first | exact c3 | exact cg
    clear hK K
    try simp only [Act.put, List.setIfInBounds_toArray, List.set_cons_zero, List.set_cons_succ]
    refine wpAnyH_take (i := 5) (v := ?v16) (by simp only [List.getElem?_toArray, List.getElem?_cons_succ, List.getElem?_cons_zero]; exact rfl) (by kernel_rfl) (by kernel_rfl) (by kernel_rfl) (by intro _ _ _ h; exact h) (Or.inl ⟨by rfl, ?y16⟩) hHeld ?_
    case y16 => (intro w hSw; (try dsimp only at hSw); go_simp; try (with_reducible rfl))
    try simp only [Act.put, List.setIfInBounds_toArray, List.set_cons_zero, List.set_cons_succ]
    refine wpAnyH_take (i := 6) (v := ?v17) (by simp only [List.getElem?_toArray, List.getElem?_cons_succ, List.getElem?_cons_zero]; exact rfl) (by kernel_rfl) (by kernel_rfl) (by kernel_rfl) (by intro _ _ _ h; exact h) (Or.inl ⟨by rfl, ?y17⟩) hHeld ?_
    case y17 => (intro w hSw; (try dsimp only at hSw); go_simp; try (with_reducible rfl))
    try simp only [Act.put, List.setIfInBounds_toArray, List.set_cons_zero, List.set_cons_succ]
    refine wpAnyH_done (by kernel_rfl) ?_ _
    go_wp2
    go_ret2
    rw [HE.out]
    exact ⟨_, rfl, hrp, hqf⟩
theorem Tab.pos {w : World} (h : Tab w) : 0 < w.heap.size := cell_lt (h 0 (by simp))
theorem conModularTree {g0 : List (List Int)} (hsm0 : SmallR g0 1048576) : ∃ (r0 : List PNode) (r1 : Bool), (∀ {S0 : Nat → Prop} {v0 : Value} {w : World}, SlR S0 w v0 g0 → Calls Tryd.prog 50 #[.agg #[v0]] w fun e w' => ∃ u0, e = .returned (.tuple #[u0, .bool r1]) ∧ OwnP w' w.heap.size w'.heap.size 126 2 u0 r0 ∧ Below w.heap.size w w') ∧
    (∀ {S0 : Nat → Prop} {v0 : Value} {w : World}, Tab w → SlR S0 w v0 g0 → Calls Tryd.prog 51 #[.agg #[v0]] w fun e w' => ∃ u0, e = .returned (.tuple #[u0, .bool r1]) ∧ OwnP w' w.heap.size w'.heap.size 126 2 u0 r0 ∧ Below w.heap.size w w') ∧
    SmallP r0 1048576 := by
  exact ⟨(mdF g0).getD [], (mdF g0).isSome, fun h0 => specModularTree_t h0, fun ht h0 => implModularTree_t ht ht.pos h0, mdF_small⟩
set_option maxHeartbeats 16000000 in
theorem lawModularTree_any {S0 : Nat → Prop} (v0 : Value) (g0 : List (List Int)) (w : World) (ht : Tab w) (hv0 : SlR S0 w v0 g0) :
    Calls Tryd.prog 10 #[.agg #[v0]] w fun e w' => e = .returned (.bool true) ∧ Below w.heap.size w w' := by
  obtain ⟨a0, c0, rfl⟩ := hv0.slice
  have q0 : Below w.heap.size w (w.alloc (.cells #[.slice a0 g0.length c0] 24)) := (Below.refl _ _).alloc (Nat.le_refl _) _
  go_enter Tryd.func10, Tryd.ntmps10
  go_wp2_with fail
  refine (szGraph_any _ _ _ _ (hv0.below q0 (Nat.le_refl _)) (by omega) (by omega)).mono ?_
  rintro e w1 ⟨r1, rfl, hr1, hs1, hm1, hb1⟩
  have q1 := q0.trans (hb1.mono q0.size)
  have z0 := q0.size
  have z1 : w.heap.size + 1 ≤ w1.heap.size := by have := hb1.size; simp at this; omega
  have b0_1 : w1.cell? ⟨w.heap.size, 0, none⟩ = some (.slice a0 g0.length c0) := (hb1.cell (p := ⟨w.heap.size, 0, none⟩) (by simp <;> omega)).trans (by simp [go_sem])
  by_cases hneg1 : r1 < 0
  case pos =>
    go_wp2
    go_ret
    exact ⟨rfl, q1⟩
  have hsm0 : SmallR g0 1048576 := hm1 (by omega)
  obtain ⟨r0, r1, hS, hI, hN0⟩ := conModularTree hsm0
  go_wp2_with fail
  refine (toGraphR_any (hv0.below q1 (Nat.le_refl _)) hsm0).mono ?_
  rintro e w2 ⟨x2, rfl, y2_2, hb2⟩
  have q2 := q1.trans (hb2.mono q1.size)
  have z2 := hb2.size
  have b0_2 : w2.cell? ⟨w.heap.size, 0, none⟩ = some (.slice a0 g0.length c0) := (hb2.cell (p := ⟨w.heap.size, 0, none⟩) (cell_lt b0_1)).trans b0_1
  obtain ⟨xa2, xc2, rfl⟩ := y2_2.isSlice
  go_wp2_with fail
  refine (hS (y2_2.rows hsm0)).mono ?_
  rintro e w3 ⟨w0u0, rfl, w0_0_3, hb3⟩
  have q3 := q2.trans (hb3.mono q2.size)
  have z3 := hb3.size
  have b0_3 : w3.cell? ⟨w.heap.size, 0, none⟩ = some (.slice a0 g0.length c0) := (hb3.cell (p := ⟨w.heap.size, 0, none⟩) (cell_lt b0_2)).trans b0_2
  have y2_3 := y2_2.below hb3 (Nat.le_refl _)
  obtain ⟨w0a0, w0c0, rfl⟩ := w0_0_3.isSlice
  go_wp2_with fail
  refine (toGraphR_any (hv0.below q3 (Nat.le_refl _)) hsm0).mono ?_
  rintro e w4 ⟨x4, rfl, y4_4, hb4⟩
  have q4 := q3.trans (hb4.mono q3.size)
  have z4 := hb4.size
  have b0_4 : w4.cell? ⟨w.heap.size, 0, none⟩ = some (.slice a0 g0.length c0) := (hb4.cell (p := ⟨w.heap.size, 0, none⟩) (cell_lt b0_3)).trans b0_3
  have y2_4 := y2_3.below hb4 (Nat.le_refl _)
  have w0_0_4 := w0_0_3.below hb4 (Nat.le_refl _)
  obtain ⟨xa4, xc4, rfl⟩ := y4_4.isSlice
  have hb5 : Below w4.heap.size w4 (w4.alloc (.cells #[.slice xa4 g0.length xc4] 29)) := (Below.refl _ _).alloc (Nat.le_refl _) _
  obtain ⟨w5, ew5⟩ : ∃ x, x = (w4.alloc (.cells #[.slice xa4 g0.length xc4] 29)) := ⟨_, rfl⟩
  rw [← ew5] at hb5
  have l5_5 : w5.cell? ⟨w4.heap.size, 0, none⟩ = some (.slice xa4 g0.length xc4) := by rw [ew5]; simp [go_sem]
  have zz5 : w5.heap.size = w4.heap.size + 1 := by rw [ew5]; simp
  have q5 := q4.trans (hb5.mono q4.size)
  have z5 := hb5.size
  have b0_5 : w5.cell? ⟨w.heap.size, 0, none⟩ = some (.slice a0 g0.length c0) := (hb5.cell (p := ⟨w.heap.size, 0, none⟩) (cell_lt b0_4)).trans b0_4
  have y2_5 := y2_4.below hb5 (Nat.le_refl _)
  have w0_0_5 := w0_0_4.below hb5 (Nat.le_refl _)
  have y4_5 := y4_4.below hb5 (Nat.le_refl _)
  have b0_5e : (w4.alloc (.cells #[.slice xa4 g0.length xc4] 29)).cell? ⟨w.heap.size, 0, none⟩ = some (.slice a0 g0.length c0) := by rw [← ew5]; exact b0_5
  have l5_5e : (w4.alloc (.cells #[.slice xa4 g0.length xc4] 29)).cell? ⟨w4.heap.size, 0, none⟩ = some (.slice xa4 g0.length xc4) := by rw [← ew5]; exact l5_5
  go_wp2_with fail
  rw [← ew5]
  refine (hI (ht.below q5 (Nat.le_refl _)) (y4_5.rows hsm0)).mono ?_
  rintro e w6 ⟨g0u0, rfl, g0_0_6, hb6⟩
  have q6 := q5.trans (hb6.mono q5.size)
  have z6 := hb6.size
  have b0_6 : w6.cell? ⟨w.heap.size, 0, none⟩ = some (.slice a0 g0.length c0) := (hb6.cell (p := ⟨w.heap.size, 0, none⟩) (cell_lt b0_5)).trans b0_5
  have l5_6 : w6.cell? ⟨w4.heap.size, 0, none⟩ = some (.slice xa4 g0.length xc4) := (hb6.cell (p := ⟨w4.heap.size, 0, none⟩) (cell_lt l5_5)).trans l5_5
  have y2_6 := y2_5.below hb6 (Nat.le_refl _)
  have w0_0_6 := w0_0_5.below hb6 (Nat.le_refl _)
  have y4_6 := y4_5.below hb6 (Nat.le_refl _)
  obtain ⟨g0a0, g0c0, rfl⟩ := g0_0_6.isSlice
  go_wp2_with fail
  refine (eqP_same (g0_0_6.parts hN0) (w0_0_6.parts hN0)).mono ?_
  rintro e w7 ⟨rfl, hb7⟩
  have q7 := q6.trans (hb7.mono q6.size)
  have z7 := hb7.size
  have b0_7 : w7.cell? ⟨w.heap.size, 0, none⟩ = some (.slice a0 g0.length c0) := (hb7.cell (p := ⟨w.heap.size, 0, none⟩) (cell_lt b0_6)).trans b0_6
  have l5_7 : w7.cell? ⟨w4.heap.size, 0, none⟩ = some (.slice xa4 g0.length xc4) := (hb7.cell (p := ⟨w4.heap.size, 0, none⟩) (cell_lt l5_6)).trans l5_6
  have y2_7 := y2_6.below hb7 (Nat.le_refl _)
  have w0_0_7 := w0_0_6.below hb7 (Nat.le_refl _)
  have y4_7 := y4_6.below hb7 (Nat.le_refl _)
  have g0_0_7 := g0_0_6.below hb7 (Nat.le_refl _)
  go_wp2
  refine wp_region_held_drew (S := (fun w' => w'.cell? ⟨w.heap.size, 0, none⟩ = some (.slice a0 g0.length c0) ∧ w'.cell? ⟨w4.heap.size, 0, none⟩ = some (.slice xa4 g0.length xc4))) (by kernel_rfl) ?_ (fun hHeld => ?_)
  · first | exact ⟨‹_›, ‹_›⟩ | assumption | (simp [*, go_sem])
  refine wpAnyH_take (i := 0) (v := ?v18) (by simp only [List.getElem?_toArray, List.getElem?_cons_zero]; exact rfl) (by kernel_rfl) (by kernel_rfl) (by kernel_rfl) (by intro _ _ _ h; exact h) (Or.inl ⟨by rfl, ?y18⟩) hHeld ?_
  case y18 => (intro w hSw; (try dsimp only at hSw); go_simp; try (with_reducible rfl))
  try simp only [Act.put, List.setIfInBounds_toArray, List.set_cons_zero, List.set_cons_succ]
  refine wpAnyH_take (i := 1) (v := ?v19) (by simp only [List.getElem?_toArray, List.getElem?_cons_succ, List.getElem?_cons_zero]; exact rfl) (by kernel_rfl) (by kernel_rfl) (by kernel_rfl) (by intro _ _ _ h; exact h) (Or.inl ⟨by rfl, ?y19⟩) hHeld ?_
  case y19 => (intro w hSw; (try dsimp only at hSw); go_simp; try (with_reducible rfl))
  try simp only [Act.put, List.setIfInBounds_toArray, List.set_cons_zero, List.set_cons_succ]
  refine wpAnyH_ready (rs := [2]) (by kernel_rfl) (by simp) ?_
  refine AllReadyH.cons (by simp only [List.getElem?_toArray, List.getElem?_cons_succ, List.getElem?_cons_zero]; exact rfl) (fun K hK => ?_) AllReadyH.nil
  go_simp
  have q7d := q7.drew
  have y2_7k := y2_7
  have y2_7 := y2_7.below ((Below.refl w7.heap.size w7).drew) (Nat.le_refl _)
  have w0_0_7k := w0_0_7
  have w0_0_7 := w0_0_7.below ((Below.refl w7.heap.size w7).drew) (Nat.le_refl _)
  have y4_7k := y4_7
  have y4_7 := y4_7.below ((Below.refl w7.heap.size w7).drew) (Nat.le_refl _)
  have g0_0_7k := g0_0_7
  have g0_0_7 := g0_0_7.below ((Below.refl w7.heap.size w7).drew) (Nat.le_refl _)
  refine (toGraph_any _ _ _ (hv0.below q7d (Nat.le_refl _)) hsm0).mono ?_
  rintro e w8 ⟨x8, rfl, y8_8, hb8⟩
  replace hb8 : Below w7.heap.size w7 w8 := ⟨hb8.os, hb8.tape, hb8.output, hb8.size, hb8.block⟩
  replace y2_7 := y2_7k
  replace w0_0_7 := w0_0_7k
  replace y4_7 := y4_7k
  replace g0_0_7 := g0_0_7k
  have q8 := q7.trans (hb8.mono q7.size)
  have z8 := hb8.size
  have b0_8 : w8.cell? ⟨w.heap.size, 0, none⟩ = some (.slice a0 g0.length c0) := (hb8.cell (p := ⟨w.heap.size, 0, none⟩) (cell_lt b0_7)).trans b0_7
  have l5_8 : w8.cell? ⟨w4.heap.size, 0, none⟩ = some (.slice xa4 g0.length xc4) := (hb8.cell (p := ⟨w4.heap.size, 0, none⟩) (cell_lt l5_7)).trans l5_7
  have y2_8 := y2_7.below hb8 (Nat.le_refl _)
  have w0_0_8 := w0_0_7.below hb8 (Nat.le_refl _)
  have y4_8 := y4_7.below hb8 (Nat.le_refl _)
  have g0_0_8 := g0_0_7.below hb8 (Nat.le_refl _)
  try dsimp only
  refine hK.out _ _ ?h21 (fun hHeld => ?_)
  case h21 => first | exact ⟨‹_›, ‹_›⟩ | assumption | (simp [*, go_sem])
  clear hK K
  try simp only [Act.put, List.setIfInBounds_toArray, List.set_cons_zero, List.set_cons_succ]
  refine wpAnyH_ready (rs := [3]) (by kernel_rfl) (by simp) ?_
  refine AllReadyH.cons (by simp only [List.getElem?_toArray, List.getElem?_cons_succ, List.getElem?_cons_zero]; exact rfl) (fun K hK => ?_) AllReadyH.nil
  go_simp
  refine (eqG_same (y4_8.rows hsm0) y8_8).mono ?_
  rintro e w9 ⟨rfl, hb9⟩
  have q9 := q8.trans (hb9.mono q8.size)
  have z9 := hb9.size
  have b0_9 : w9.cell? ⟨w.heap.size, 0, none⟩ = some (.slice a0 g0.length c0) := (hb9.cell (p := ⟨w.heap.size, 0, none⟩) (cell_lt b0_8)).trans b0_8
  have l5_9 : w9.cell? ⟨w4.heap.size, 0, none⟩ = some (.slice xa4 g0.length xc4) := (hb9.cell (p := ⟨w4.heap.size, 0, none⟩) (cell_lt l5_8)).trans l5_8
  have y2_9 := y2_8.below hb9 (Nat.le_refl _)
  have w0_0_9 := w0_0_8.below hb9 (Nat.le_refl _)
  have y4_9 := y4_8.below hb9 (Nat.le_refl _)
  have g0_0_9 := g0_0_8.below hb9 (Nat.le_refl _)
  have y8_9 := y8_8.below hb9 (Nat.le_refl _)
  try dsimp only
  refine hK.out _ _ ?h23 (fun hHeld => ?_)
  case h23 => first | exact ⟨‹_›, ‹_›⟩ | assumption | (simp [*, go_sem])
  clear hK K
  try simp only [Act.put, List.setIfInBounds_toArray, List.set_cons_zero, List.set_cons_succ]
  refine wpAnyH_take (i := 4) (v := ?v24) (by simp only [List.getElem?_toArray, List.getElem?_cons_succ, List.getElem?_cons_zero]; exact rfl) (by kernel_rfl) (by kernel_rfl) (by kernel_rfl) (by intro _ _ _ h; exact h) (Or.inl ⟨by rfl, ?y24⟩) hHeld ?_
  case y24 => (intro w hSw; (try dsimp only at hSw); go_simp; try (with_reducible rfl))
  try simp only [Act.put, List.setIfInBounds_toArray, List.set_cons_zero, List.set_cons_succ]
  refine wpAnyH_done (by kernel_rfl) ?_ _
  go_wp2_with fail
  refine (markG_any y4_9 hsm0 (by omega) (by omega) (by omega)).mono ?_
  rintro e w10 ⟨k10, rfl, hk10, hl10, ht10⟩
  have q10 := ht10.below q9 (by have := q9.size; omega) q9.size
  have z10 := ht10.size
  have b0_10 : w10.cell? ⟨w.heap.size, 0, none⟩ = some (.slice a0 g0.length c0) := (ht10.cell (p := ⟨w.heap.size, 0, none⟩) (cell_lt b0_9) (by have : w.heap.size < w9.heap.size := cell_lt b0_9; show w.heap.size < _ ∨ _ ≤ w.heap.size; omega)).trans b0_9
  have l5_10 : w10.cell? ⟨w4.heap.size, 0, none⟩ = some (.slice xa4 g0.length xc4) := (ht10.cell (p := ⟨w4.heap.size, 0, none⟩) (cell_lt l5_9) (by have : w4.heap.size < w9.heap.size := cell_lt l5_9; show w4.heap.size < _ ∨ _ ≤ w4.heap.size; omega)).trans l5_9
  have y2_10 := y2_9.between ht10 (by omega)
  have w0_0_10 := w0_0_9.between ht10 (by omega)
  have g0_0_10 := g0_0_9.between ht10 (by omega)
  have hkn10 : ¬ k10 < 0 := by omega
  go_wp2_with fail
  refine (eqP_same (g0_0_10.parts hN0) (w0_0_10.parts hN0)).mono ?_
  rintro e w11 ⟨rfl, hb11⟩
  have q11 := q10.trans (hb11.mono q10.size)
  have z11 := hb11.size
  have b0_11 : w11.cell? ⟨w.heap.size, 0, none⟩ = some (.slice a0 g0.length c0) := (hb11.cell (p := ⟨w.heap.size, 0, none⟩) (cell_lt b0_10)).trans b0_10
  have l5_11 : w11.cell? ⟨w4.heap.size, 0, none⟩ = some (.slice xa4 g0.length xc4) := (hb11.cell (p := ⟨w4.heap.size, 0, none⟩) (cell_lt l5_10)).trans l5_10
  have y2_11 := y2_10.below hb11 (Nat.le_refl _)
  have w0_0_11 := w0_0_10.below hb11 (Nat.le_refl _)
  have g0_0_11 := g0_0_10.below hb11 (Nat.le_refl _)
  go_wp2_with fail
  refine (markP_any g0_0_11 hN0 (k := 1) (by omega) (by omega)).mono ?_
  rintro e w12 ⟨rfl, g0_0_12, ht12⟩
  have q12 := ht12.below q11 (by have := q11.size; omega) q11.size
  have z12 := ht12.size
  have b0_12 : w12.cell? ⟨w.heap.size, 0, none⟩ = some (.slice a0 g0.length c0) := (ht12.cell (p := ⟨w.heap.size, 0, none⟩) (cell_lt b0_11) (by have : w.heap.size < w11.heap.size := cell_lt b0_11; show w.heap.size < _ ∨ _ ≤ w.heap.size; omega)).trans b0_11
  have l5_12 : w12.cell? ⟨w4.heap.size, 0, none⟩ = some (.slice xa4 g0.length xc4) := (ht12.cell (p := ⟨w4.heap.size, 0, none⟩) (cell_lt l5_11) (by have : w4.heap.size < w11.heap.size := cell_lt l5_11; show w4.heap.size < _ ∨ _ ≤ w4.heap.size; omega)).trans l5_11
  have y2_12 := y2_11.between ht12 (by omega)
  have w0_0_12 := w0_0_11.between ht12 (by omega)
  have hmn12 : ¬ (1 + (sizeP r0 : Int)) < 0 := by omega
  go_wp2_with fail
  refine (heldP_any (g0_0_12.parts (markP_small hN0)) hN0 (k := 1) (by omega) (by omega)).mono ?_
  rintro e w13 ⟨rfl, hb13⟩
  have q13 := q12.trans (hb13.mono q12.size)
  have z13 := hb13.size
  have b0_13 : w13.cell? ⟨w.heap.size, 0, none⟩ = some (.slice a0 g0.length c0) := (hb13.cell (p := ⟨w.heap.size, 0, none⟩) (cell_lt b0_12)).trans b0_12
  have l5_13 : w13.cell? ⟨w4.heap.size, 0, none⟩ = some (.slice xa4 g0.length xc4) := (hb13.cell (p := ⟨w4.heap.size, 0, none⟩) (cell_lt l5_12)).trans l5_12
  have y2_13 := y2_12.below hb13 (Nat.le_refl _)
  have w0_0_13 := w0_0_12.below hb13 (Nat.le_refl _)
  have g0_0_13 := g0_0_12.below hb13 (Nat.le_refl _)
  have hmn13 : ¬ (1 + (sizeP r0 : Int)) < 0 := by omega
  go_wp2_with fail
  refine (toGraphR_any (hv0.below q13 (Nat.le_refl _)) hsm0).mono ?_
  rintro e w14 ⟨x14, rfl, y14_14, hb14⟩
  have q14 := q13.trans (hb14.mono q13.size)
  have z14 := hb14.size
  have b0_14 : w14.cell? ⟨w.heap.size, 0, none⟩ = some (.slice a0 g0.length c0) := (hb14.cell (p := ⟨w.heap.size, 0, none⟩) (cell_lt b0_13)).trans b0_13
  have l5_14 : w14.cell? ⟨w4.heap.size, 0, none⟩ = some (.slice xa4 g0.length xc4) := (hb14.cell (p := ⟨w4.heap.size, 0, none⟩) (cell_lt l5_13)).trans l5_13
  have y2_14 := y2_13.below hb14 (Nat.le_refl _)
  have w0_0_14 := w0_0_13.below hb14 (Nat.le_refl _)
  have g0_0_14 := g0_0_13.below hb14 (Nat.le_refl _)
  obtain ⟨xa14, xc14, rfl⟩ := y14_14.isSlice
  go_wp2_with fail
  refine (hI (ht.below q14 (Nat.le_refl _)) (y14_14.rows hsm0)).mono ?_
  rintro e w15 ⟨h0u0, rfl, h0_0_15, hb15⟩
  have q15 := q14.trans (hb15.mono q14.size)
  have z15 := hb15.size
  have b0_15 : w15.cell? ⟨w.heap.size, 0, none⟩ = some (.slice a0 g0.length c0) := (hb15.cell (p := ⟨w.heap.size, 0, none⟩) (cell_lt b0_14)).trans b0_14
  have l5_15 : w15.cell? ⟨w4.heap.size, 0, none⟩ = some (.slice xa4 g0.length xc4) := (hb15.cell (p := ⟨w4.heap.size, 0, none⟩) (cell_lt l5_14)).trans l5_14
  have y2_15 := y2_14.below hb15 (Nat.le_refl _)
  have w0_0_15 := w0_0_14.below hb15 (Nat.le_refl _)
  have g0_0_15 := g0_0_14.below hb15 (Nat.le_refl _)
  have y14_15 := y14_14.below hb15 (Nat.le_refl _)
  obtain ⟨h0a0, h0c0, rfl⟩ := h0_0_15.isSlice
  go_wp2_with fail
  refine (eqP_same (h0_0_15.parts hN0) (w0_0_15.parts hN0)).mono ?_
  rintro e w16 ⟨rfl, hb16⟩
  have q16 := q15.trans (hb16.mono q15.size)
  have z16 := hb16.size
  have b0_16 : w16.cell? ⟨w.heap.size, 0, none⟩ = some (.slice a0 g0.length c0) := (hb16.cell (p := ⟨w.heap.size, 0, none⟩) (cell_lt b0_15)).trans b0_15
  have l5_16 : w16.cell? ⟨w4.heap.size, 0, none⟩ = some (.slice xa4 g0.length xc4) := (hb16.cell (p := ⟨w4.heap.size, 0, none⟩) (cell_lt l5_15)).trans l5_15
  have y2_16 := y2_15.below hb16 (Nat.le_refl _)
  have w0_0_16 := w0_0_15.below hb16 (Nat.le_refl _)
  have g0_0_16 := g0_0_15.below hb16 (Nat.le_refl _)
  have y14_16 := y14_15.below hb16 (Nat.le_refl _)
  have h0_0_16 := h0_0_15.below hb16 (Nat.le_refl _)
  go_wp2_with fail
  refine (heldP_any (g0_0_16.parts (markP_small hN0)) hN0 (k := 1) (by omega) (by omega)).mono ?_
  rintro e w17 ⟨rfl, hb17⟩
  have q17 := q16.trans (hb17.mono q16.size)
  have z17 := hb17.size
  have b0_17 : w17.cell? ⟨w.heap.size, 0, none⟩ = some (.slice a0 g0.length c0) := (hb17.cell (p := ⟨w.heap.size, 0, none⟩) (cell_lt b0_16)).trans b0_16
  have l5_17 : w17.cell? ⟨w4.heap.size, 0, none⟩ = some (.slice xa4 g0.length xc4) := (hb17.cell (p := ⟨w4.heap.size, 0, none⟩) (cell_lt l5_16)).trans l5_16
  have y2_17 := y2_16.below hb17 (Nat.le_refl _)
  have w0_0_17 := w0_0_16.below hb17 (Nat.le_refl _)
  have g0_0_17 := g0_0_16.below hb17 (Nat.le_refl _)
  have y14_17 := y14_16.below hb17 (Nat.le_refl _)
  have h0_0_17 := h0_0_16.below hb17 (Nat.le_refl _)
  have hmn17 : ¬ (1 + (sizeP r0 : Int)) < 0 := by omega
  go_wp2
  go_ret
  exact ⟨rfl, q17⟩
end Go.Proofs.YthpbeiihlembnaaDoor
