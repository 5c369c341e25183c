/- The reference's search for planar systems: the walk of the search. -/
import Derived.Test.YtdbanndcdbikmaaGreatDoorGenC
import Derived.Test.YtdbanndcdbikmaaGreatDoorMir3
import Derived.Test.YtdbanndcdbikmaaGreatDoorLoopL
import Derived.Test.YtdbanndcdbikmaaGreatDoorPutL
import Derived.Test.YtdbanndcdbikmaaGreatDoorEmbD
import Derived.Test.YtdbanndcdbikmaaGreatDoorPairs
import Derived.Test.YtdbanndcdbikmaaGreatDoorOwnS
import Derived.Test.YtdbanndcdbikmaaGreatDoorRowO
namespace Go.Proofs.YtdbanndcdbikmaaGreatDoor
open Go.RowKit
theorem opWp_append1E {P : Program} {w : World} {T E : TypeId} {bytes : Nat} {z : Value} (hE : Elem P T E 1 bytes z) {B : Nat}
    {o : Oper} {a : Act} {K : Act → World → Prop} {Q : Exit → Act → World → Prop} (s x : Operand)
    (ho : o.op = .call { callee := .builtin .append, args := #[s, x], argTypes := #[T, T] })
    {v : Value} {n : Nat} {xs : List Value} (hown : Own w B E 1 v n xs) (hs : a.eval s = v) {u : Value} {nb : Nat}
    (hx : a.eval x = .slice (some ⟨nb, 0, none⟩) 1 1) (hcell : w.cell? ⟨nb, 0, none⟩ = some u) (h1 : u.oneCell' = true)
    (h63 : n + 1 ≤ 1099511627) (hbase : B ≤ w.heap.size)
    (h : ∀ v' w', Own w' B E 1 v' (n + 1) (xs ++ [u]) → KeptBut w w' v.ownBlock → Moved w v v' → K (a.put o.dst v') w') : o.wp P a w K Q := by
  obtain ⟨v', w', hr, h2, h3, h4⟩ := append_run (w := w) (ty := o.type) hE v n xs hown ⟨nb, 0, none⟩ 1 1 [u] rfl (fun j u' hj => by
      match j, hj with
      | 0, hj => simp at hj; subst hj; simpa [Addr.add] using hcell)
    (fun u' hu' => by simp at hu'; subst hu'; exact h1) h63 hbase
  unfold Oper.wp execOp
  simp only [ho, resolve, invoke, builtin, Sem.run_bind, Sem.run_pure, Result.andThen_ok, List.map_toArray, List.map_cons, List.map_nil, hs, hx, hr]
  exact h v' w' h2 (KeptBut.of_grown h3) h4
theorem SlI.dropE {S : Nat → Prop} {w : World} {k : IntKind} {b off n c m : Nat} {xs : List Int} (h : SlI S w k (.slice (some ⟨b, off, none⟩) n c) xs) (hm : m ≤ n) : SlI S w k (.slice (if c = m then some ⟨b, off, none⟩ else some ⟨b, off + m, none⟩) (n - m) (c - m)) (xs.drop m) := by
  obtain ⟨h1, h2, h3⟩ := h.capOf
  by_cases e : m < n
  · rw [if_neg (by omega)]; exact h.drop e
  · have e1 : xs.drop m = [] := List.drop_eq_nil_of_le (by omega)
    have e2 : n - m = 0 := by omega
    rw [e1, e2]
    exact ⟨_, b, off, c - m, rfl, ⟨Nat.zero_le _, by omega⟩, fun h => by simp at h, fun i hi => by simp at hi⟩
/-- Rows, one put in another's place. -/
theorem RowsTo.setE {S : Nat → Prop} {w : World} {vs : List Value} {g : List (List Int)} {v : Nat} {x : Value} {r : List Int} (h : RowsTo S w vs g) (hx : SlI S w .i64 x r) : RowsTo S w (vs.set v x) (g.set v r) := by
  refine ⟨by simpa using h.1, fun i h1 h2 => ?_⟩
  rw [List.getElem_set, List.getElem_set]
  by_cases e : v = i
  · rw [if_pos e, if_pos e]; exact hx
  · rw [if_neg e, if_neg e]; exact h.2 i (by simpa using h1) (by simpa using h2)
theorem map_setE (t : List (List Nat)) (v : Nat) (l : List Nat) : (t.set v l).map natsI = (t.map natsI).set v (natsI l) := List.map_set
theorem nats_takeE (l : List Nat) (k : Nat) : (natsI l).take k = natsI (l.take k) := by simp [natsI, List.map_take]
theorem nats_dropE (l : List Nat) (k : Nat) : (natsI l).drop k = natsI (l.drop k) := by simp [natsI, List.map_drop]
set_option maxRecDepth 100000 in
set_option maxHeartbeats 8000000 in
theorem l22Put_any {S : Nat → Prop} {tv : Value} {t : List (List Nat)} {u v i : Nat} {w : World} (hv : SlR S w tv (t.map natsI)) (hvl : v < t.length) (hn : t.length ≤ 16) (hrow : (t.getD v []).length ≤ 16) (hi : i < max 1 (t.getD v []).length) :
    Calls Tryz.prog 115 #[tv, .int .i64 (v : Int), .int .i64 (i : Int), .int .i64 (u : Int)] w fun e w' => ∃ x, e = .returned x ∧ SlR (fun b => b < w'.heap.size) w' x ((t.set v (insN (t.getD v []) i u)).map natsI) ∧ Below w.heap.size w w' := by
  obtain ⟨a, b, off, cap, f, rfl, hl, ha, hc⟩ := hv
  rw [List.length_map] at hl ha ⊢
  obtain ⟨rfl, hSb⟩ := ha (by omega)
  have hsl : ∀ k (hk : k < t.length), ∃ ra rn rc, f k = .slice ra rn rc := fun k hk => by
    obtain ⟨ra, rc, e⟩ := (hc k (by simpa using hk)).2.slice
    exact ⟨ra, _, rc, e⟩
  have hRT0 : RowsTo S w ((List.range t.length).map f) (t.map natsI) := ⟨by simp, fun k h1 h2 => by
    simp only [List.getElem_map, List.getElem_range]
    exact (by simpa using (hc k h2).2)⟩
  have hlow : ∀ k (hk : k < t.length), SlI (fun b => b < w.heap.size) w .i64 (f k) (natsI t[k]) := fun k hk => by
    have h := (hc k (by simpa using hk)).2
    rw [List.getElem_map] at h
    obtain ⟨a', b', off', cap', e, hl', ha', hc'⟩ := h
    exact ⟨a', b', off', cap', e, hl', fun h0 => ⟨(ha' h0).1, cell_lt (hc' 0 h0)⟩, hc'⟩
  have hRT : RowsTo (fun b => b < w.heap.size) w ((List.range t.length).map f) (t.map natsI) := ⟨by simp, fun k h1 h2 => by
    simp only [List.getElem_map, List.getElem_range]
    exact hlow k (by simpa using h2)⟩
  have hone : ∀ x ∈ (List.range t.length).map f, x.oneCell' = true := fun x hx => by
    obtain ⟨k, hk, rfl⟩ := List.mem_map.1 hx
    obtain ⟨ra, rn, rc, e⟩ := hsl k (List.mem_range.1 hk)
    rw [e]; rfl
  have hcells : ∀ W : World, Below w.heap.size w W → ∀ k, k < t.length → W.cell? ⟨b, off + k, none⟩ = some (f k) := fun W hb k hk => (hb.cell (p := ⟨b, off + k, none⟩) (cell_lt (hc k (by simpa using hk)).1)).trans (hc k (by simpa using hk)).1
  have hnews : ∀ W : World, Below w.heap.size w W → ∀ j x, ((List.range t.length).map f)[j]? = some x → W.cell? ((⟨b, off, none⟩ : Addr).add j) = some x := fun W hb j x hj => by
    have hjn : j < t.length := by
      have := (List.getElem?_eq_some_iff.1 hj).1; simpa using this
    rw [List.getElem?_map, List.getElem?_range hjn] at hj
    simp only [Option.map_some, Option.some.injEq] at hj
    rw [← hj, show (⟨b, off, none⟩ : Addr).add j = ⟨b, off + j, none⟩ from by by_cases h0 : j = 0 <;> simp [Addr.add, h0]]
    exact hcells W hb j hjn
  have hq0 : Below w.heap.size w (w.alloc (.cells #[] 36)) := (Below.refl _ _).alloc (Nat.le_refl _) _
  have ho0 : Own (w.alloc (.cells #[] 36)) w.heap.size 36 1 (.slice (some ⟨w.heap.size, 0, none⟩) 0 0) 0 [] := World.ownsRow_lit (base := w.heap.size) (e := 36) (size := 1) w #[] 0 (Nat.le_refl _) (by unfold maxLen; omega) rfl
  have hrv := hlow v hvl
  obtain ⟨ra, rc, hfe⟩ := hrv.slice
  rw [natsI_len] at hfe
  have e0 : t.getD v [] = t[v] := by simp [hvl]
  have HN := Lib.hid (hnews _ hq0)
  have HCE := Lib.hid (fun (W : World) (hb : Below w.heap.size w W) => hcells W hb v hvl)
  have HRT := Lib.hid hRT
  have HONE := Lib.hid hone
  have HNL := Lib.hid (show ((List.range t.length).map f).length = t.length * 1 by simp)
  rw [hfe] at HCE hrv
  rw [e0] at hrow hi ⊢
  have HL := Lib.hid (show (List.range t.length).map f = (List.range t.length).map f from rfl)
  generalize hLe : (List.range t.length).map f = L at *
  have hNv : v < L.length := by have := HNL.out; omega
  have HE0 := Lib.hid (show (t.set v (insN t[v] i u)).map natsI = (t.map natsI).set v (natsI (insN t[v] i u)) from map_setE _ _ _)
  have HTL := Lib.hid (show (t.set v (insN t[v] i u)).length = t.length ∧ (t.map natsI).length = t.length by simp)
  clear hc hRT0 hsl hlow hRT hone hcells hnews hLe HL e0 hfe ha
  go_enter Tryz.func115, Tryz.ntmps115
  go_wp2_with (at_builtin; refine wpList_append elRows rfl _ _ rfl ho0 rfl rfl HNL.out HN.out HONE.out (by omega) (by simp) ?_; intro v1 w1 ho1 hk1 hm1; refine hold_in ?_)
  unfold HoldP
  have hq1 : Below w.heap.size w w1 := (KeptBut.of_grown hk1).below hq0 (by simp) (fun b hb => (ho0.lt b hb).1)
  rw [Nat.zero_add, List.nil_append] at ho1
  obtain ⟨ob, oc, rfl⟩ := own_some ho1 (by omega)
  have c1 := HCE.out w1 hq1
  clear hk1 hm1 ho0 hq0 HN
  have fin : ∀ (W : World) (x : Value), Below w.heap.size w W → Own W w.heap.size 36 1 (.slice (some ⟨ob, 0, none⟩) t.length oc) t.length L → SlI (fun b => b < W.heap.size ∧ b ≠ ob) W .i64 x (natsI (insN t[v] i u)) →
      Below w.heap.size w (W.setCell ⟨ob, v, none⟩ x) ∧ SlR (fun b => b < (W.setCell ⟨ob, v, none⟩ x).heap.size) (W.setCell ⟨ob, v, none⟩ x) (.slice (some ⟨ob, 0, none⟩) t.length oc) ((t.set v (insN t[v] i u)).map natsI) := fun W x hb ho hx => by
    have hob := ho.lt ob rfl
    have hks := KeptBut.set W ob v x
    have hb2 := hks.below hb hb.size (fun b hb => by have e : ob = b := Option.some.inj hb; omega)
    have ho2 := Own.stored ho v x
    have hsz : (W.setCell ⟨ob, v, none⟩ x).heap.size = W.heap.size := by simp
    refine ⟨hb2, ?_⟩
    have hR : RowsTo (fun b => b < W.heap.size) (W.setCell ⟨ob, v, none⟩ x) (L.set v x) ((t.map natsI).set v (natsI (insN t[v] i u))) :=
      ((HRT.out.below hb2 (Nat.le_refl _)).weak' fun b hb3 => Nat.lt_of_lt_of_le hb3 hb.size).setE ((hx.keep fun b hb3 => hks.2.2.2.2 b hb3.1 (fun e => hb3.2 (Option.some.inj e))).weak fun b hb3 => hb3.1)
    rw [HE0.out, hsz]
    have := hR.rows (v := .slice (some ⟨ob, 0, none⟩) t.length oc) (by have := HNL.out; simp; omega) (fun b hb3 => by have e : ob = b := Option.some.inj hb3; omega) ho2 (by omega)
    exact this
  have HFIN := Lib.hid fin
  clear fin
  cases hrl : t[v] with
  | nil =>
    rw [hrl] at c1 hi hrow hrv HFIN
    have hi0 : i = 0 := by simp at hi; exact hi
    subst hi0
    have hin : insN [] 0 u = [u] := ins_nil 0 u
    rw [hin] at HFIN
    have HHI := Lib.hid (show insN t[v] 0 u = [u] by rw [hrl]; exact ins_nil 0 u)
    have hbl : Below w1.heap.size w1 (w1.alloc (.cells #[.int .i64 (u : Int)] 2)) := (Below.refl _ _).alloc (Nat.le_refl _) _
    have hx2 : Own (w1.alloc (.cells #[.int .i64 (u : Int)] 2)) w1.heap.size 2 1 (.slice (some ⟨w1.heap.size, 0, none⟩) 1 1) 1 ((natsI [u]).map (.int .i64)) := World.ownsRow_lit (base := w1.heap.size) (e := 2) (size := 1) w1 #[.int .i64 (u : Int)] 1 (Nat.le_refl _) (by unfold maxLen; omega) rfl
    have ho2 := ho1.below hbl (Nat.le_refl _)
    have hq2 := hq1.trans (hbl.mono hq1.size)
    have hob := (ho1.lt ob rfl).2
    have hf := HFIN.out _ (.slice (some ⟨w1.heap.size, 0, none⟩) 1 1) hq2 ho2 ((hx2.ints (by simp [natsI])).weak fun b hb => by have e : w1.heap.size = b := Option.some.inj hb; subst e; exact ⟨by simp, by omega⟩)
    have hfz := World.ownsRow.frozenAt ho2 v
    obtain ⟨u0, hdst⟩ : ∃ x, (w1.alloc (.cells #[.int .i64 (u : Int)] 2)).cell? ⟨ob, v, none⟩ = some x := ⟨_, (World.ownsRow.cellAt ho2 v (by omega)).trans (List.getElem?_eq_getElem hNv)⟩
    have c2 := HCE.out _ hq2
    rw [hrl] at c2
    clear hrl hin HRT HNL HONE ho1 hx2 hbl hq1 hrv HFIN ho2 hNv hob
    go_wp2
    go_ret
    exact ⟨_, rfl, by rw [HHI.out]; exact hf.2, hf.1⟩
  | cons r0 rs =>
    have hlp : 0 < t[v].length := by rw [hrl]; simp
    have hi2 : i < t[v].length := by omega
    have HFN := Lib.hid (show natsI (insN t[v] i u) = natsI (t[v].take (i + 1)) ++ [(u : Int)] ++ natsI (t[v].drop (i + 1)) by unfold insN natsI; simp)
    rw [HFN.out] at HFIN
    obtain ⟨sb, so, sc, hse, -⟩ := hrv.at_
    rw [natsI_len] at hse
    have hse := hse hlp
    simp only [Value.slice.injEq] at hse
    obtain ⟨rfl, -, rfl⟩ := hse
    have hd1 : SlI (fun b => b < w.heap.size) w .i64 (.slice (some ⟨sb, so, none⟩) (i + 1) rc) (natsI (t[v].take (i + 1))) := by
      have := hrv.take (m := i + 1) (by omega)
      rw [nats_takeE] at this; exact this
    have hd2 := hrv.dropE (m := i + 1) (by omega)
    rw [nats_dropE] at hd2
    obtain ⟨h4, h5, h6⟩ := hrv.capOf
    have hl1 : (natsI (t[v].take (i + 1))).length = i + 1 := by rw [natsI_len, List.length_take]; omega
    have hl2 : (natsI (t[v].drop (i + 1))).length ≤ 16 := by rw [natsI_len, List.length_drop]; omega
    have hcI : (i : Int) + 1 ≤ (rc : Int) := by omega
    obtain ⟨ad, had⟩ : ∃ ad, (if rc = i + 1 then some (⟨sb, so, none⟩ : Addr) else some ⟨sb, so + (i + 1), none⟩) = ad := ⟨_, rfl⟩
    rw [had] at hd2
    have hd1 := fun (W : World) (hb : Below w.heap.size w W) => hd1.below hb (Nat.le_refl _)
    have hd2 := fun (W : World) (hb : Below w.heap.size w W) => hd2.below hb (Nat.le_refl _)
    have HD2 := Lib.hid hd2
    have hwi : IntKind.i64.wrap ((i : Int) + 1) = (i : Int) + 1 := IntWalk.i64_in _ (by omega)
    have hwt : ((i : Int) + 1).toNat = i + 1 := by omega
    have hw0 : (0 : Int) ≤ (i : Int) + 1 := by omega
    have hcN : i + 1 ≤ rc := by omega
    have hmI : (i : Int) + 1 ≤ (t[v].length : Int) := by omega
    generalize natsI (t[v].take (i + 1)) = A at *
    generalize natsI (t[v].drop (i + 1)) = C at *
    generalize t[v].length = m at *
    have hob := (ho1.lt ob rfl).2
    clear hrl hrv h4 HRT HNL HONE
    obtain ⟨wi, rfl⟩ : ∃ x : World, x = w1 := ⟨_, rfl⟩
    have hbl : Below wi.heap.size wi (wi.alloc (.cells #[.int .i64 (u : Int)] 2)) := (Below.refl _ _).alloc (Nat.le_refl _) _
    have ho2 := ho1.below hbl (Nat.le_refl _)
    have hq2 := hq1.trans (hbl.mono hq1.size)
    have c2 := HCE.out _ hq2
    have hob2 : ob < (wi.alloc (.cells #[.int .i64 (u : Int)] 2)).heap.size := by simp; omega
    clear hd2 ho1 hq1 c1 hbl hob
    go_wp2
    generalize wi.alloc (.cells #[.int .i64 (u : Int)] 2) = w2 at *
    obtain ⟨wi, rfl⟩ : ∃ x : World, x = w2 := ⟨_, rfl⟩
    refine wp_region_held_drew (S := (fun w' => w'.cell? ⟨b, off + v, none⟩ = some (.slice (some ⟨sb, so, none⟩) m rc))) (by kernel_rfl) ?_ (fun hHeld => ?_)
    · first | exact ‹_› | (simp [*, go_sem])
    have hbd : Below wi.heap.size wi wi.drew := ((Drawn.refl _).drew).below _
    generalize wi.drew = wd at hbd hHeld ⊢
    have e0 := hHeld
    refine wpAnyH_take (i := 0) (v := ?v1) (by simp only [List.getElem?_toArray, List.getElem?_cons_zero]; exact rfl) (by kernel_rfl) (by kernel_rfl) (by kernel_rfl) (by intro _ _ _ h; exact h) (Or.inl ⟨by rfl, ?y1⟩) hHeld ?_
    case y1 => (intro w hSw; (try dsimp only at hSw); go_simp; try (with_reducible rfl))
    try simp only [Act.put, List.setIfInBounds_toArray, List.set_cons_zero, List.set_cons_succ]
    refine wpAnyH_take (i := 1) (v := ?v2) (by simp only [List.getElem?_toArray, List.getElem?_cons_succ, List.getElem?_cons_zero]; exact rfl) (by kernel_rfl) (by kernel_rfl) (by kernel_rfl) (by intro _ _ _ h; exact h) (Or.inl ⟨by rfl, ?y2⟩) hHeld ?_
    case y2 => (intro w hSw; (try dsimp only at hSw); go_simp; try (with_reducible rfl))
    try simp only [Act.put, List.setIfInBounds_toArray, List.set_cons_zero, List.set_cons_succ]
    refine wpAnyH_take (i := 2) (v := ?v3) (by simp only [List.getElem?_toArray, List.getElem?_cons_succ, List.getElem?_cons_zero]; exact rfl) (by kernel_rfl) (by kernel_rfl) (by kernel_rfl) (by intro _ _ _ h; exact h) (Or.inl ⟨by rfl, ?y3⟩) hHeld ?_
    case y3 => (intro w hSw; (try dsimp only at hSw); go_simp; try (with_reducible rfl))
    try simp only [Act.put, List.setIfInBounds_toArray, List.set_cons_zero, List.set_cons_succ]
    refine wpAnyH_take (i := 3) (v := ?v4) (by simp only [List.getElem?_toArray, List.getElem?_cons_succ, List.getElem?_cons_zero]; exact rfl) (by kernel_rfl) (by kernel_rfl) (by kernel_rfl) (by intro _ _ _ h; exact h) (Or.inl ⟨by rfl, ?y4⟩) hHeld ?_
    case y4 => (intro w hSw; (try dsimp only at hSw); go_simp; try (with_reducible rfl))
    try simp only [Act.put, List.setIfInBounds_toArray, List.set_cons_zero, List.set_cons_succ]
    refine wpAnyH_take (i := 4) (v := ?v5) (by simp only [List.getElem?_toArray, List.getElem?_cons_succ, List.getElem?_cons_zero]; exact rfl) (by kernel_rfl) (by kernel_rfl) (by kernel_rfl) (by intro _ _ _ h; exact h) (Or.inl ⟨by rfl, ?y5⟩) hHeld ?_
    case y5 => (intro w hSw; (try dsimp only at hSw); go_simp; try (with_reducible rfl))
    try simp only [Act.put, List.setIfInBounds_toArray, List.set_cons_zero, List.set_cons_succ]
    refine wpAnyH_take (i := 5) (v := ?v6) (by simp only [List.getElem?_toArray, List.getElem?_cons_succ, List.getElem?_cons_zero]; exact rfl) (by kernel_rfl) (by kernel_rfl) (by kernel_rfl) (by intro _ _ _ h; exact h) (Or.inl ⟨by rfl, ?y6⟩) hHeld ?_
    case y6 => (intro w hSw; (try dsimp only at hSw); go_simp; try (with_reducible rfl))
    try simp only [Act.put, List.setIfInBounds_toArray, List.set_cons_zero, List.set_cons_succ]
    refine wpAnyH_take (i := 6) (v := ?v7) (by simp only [List.getElem?_toArray, List.getElem?_cons_succ, List.getElem?_cons_zero]; exact rfl) (by kernel_rfl) (by kernel_rfl) (by kernel_rfl) (by intro _ _ _ h; exact h) (Or.inl ⟨by rfl, ?y7⟩) hHeld ?_
    case y7 => (intro w hSw; (try dsimp only at hSw); go_simp; try (with_reducible rfl))
    try simp only [Act.put, List.setIfInBounds_toArray, List.set_cons_zero, List.set_cons_succ]
    refine wpAnyH_take (i := 8) (v := ?v8) (by simp only [List.getElem?_toArray, List.getElem?_cons_succ, List.getElem?_cons_zero]; exact rfl) (by kernel_rfl) (by kernel_rfl) (by kernel_rfl) (by intro _ _ _ h; exact h) (Or.inl ⟨by rfl, ?y8⟩) hHeld ?_
    case y8 => (intro w hSw; (try dsimp only at hSw); go_simp; try (with_reducible rfl))
    try simp only [Act.put, List.setIfInBounds_toArray, List.set_cons_zero, List.set_cons_succ]
    refine wpAnyH_take (i := 11) (v := ?v9) (by simp only [List.getElem?_toArray, List.getElem?_cons_succ, List.getElem?_cons_zero]; exact rfl) (by kernel_rfl) (by kernel_rfl) (by kernel_rfl) (by intro _ _ _ h; exact h) (Or.inl ⟨by rfl, ?y9⟩) hHeld ?_
    case y9 => (intro w hSw; (try dsimp only at hSw); go_simp; try (with_reducible rfl))
    try simp only [Act.put, List.setIfInBounds_toArray, List.set_cons_zero, List.set_cons_succ]
    refine wpAnyH_take (i := 12) (v := ?v10) (by simp only [List.getElem?_toArray, List.getElem?_cons_succ, List.getElem?_cons_zero]; exact rfl) (by kernel_rfl) (by kernel_rfl) (by kernel_rfl) (by intro _ _ _ h; exact h) (Or.inl ⟨by rfl, ?y10⟩) hHeld ?_
    case y10 => (intro w hSw; (try dsimp only at hSw); go_simp; try (with_reducible rfl))
    try simp only [Act.put, List.setIfInBounds_toArray, List.set_cons_zero, List.set_cons_succ]
    refine wpAnyH_take (i := 13) (v := ?v11) (by simp only [List.getElem?_toArray, List.getElem?_cons_succ, List.getElem?_cons_zero]; exact rfl) (by kernel_rfl) (by kernel_rfl) (by kernel_rfl) (by intro _ _ _ h; exact h) (Or.inl ⟨by rfl, ?y11⟩) hHeld ?_
    case y11 => (intro w hSw; (try dsimp only at hSw); go_simp; try (with_reducible rfl))
    try simp only [Act.put, List.setIfInBounds_toArray, List.set_cons_zero, List.set_cons_succ]
    refine wpAnyH_take (i := 14) (v := ?v12) (by simp only [List.getElem?_toArray, List.getElem?_cons_succ, List.getElem?_cons_zero]; exact rfl) (by kernel_rfl) (by kernel_rfl) (by kernel_rfl) (by intro _ _ _ h; exact h) (Or.inl ⟨by rfl, ?y12⟩) hHeld ?_
    case y12 => (intro w hSw; (try dsimp only at hSw); go_simp; try (with_reducible rfl))
    try simp only [Act.put, List.setIfInBounds_toArray, List.set_cons_zero, List.set_cons_succ]
    refine wpAnyH_take (i := 15) (v := ?v13) (by simp only [List.getElem?_toArray, List.getElem?_cons_succ, List.getElem?_cons_zero]; exact rfl) (by kernel_rfl) (by kernel_rfl) (by kernel_rfl) (by intro _ _ _ h; exact h) (Or.inl ⟨by rfl, ?y13⟩) hHeld ?_
    case y13 => (intro w hSw; (try dsimp only at hSw); go_simp; try (with_reducible rfl))
    try simp only [Act.put, List.setIfInBounds_toArray, List.set_cons_zero, List.set_cons_succ]
    refine wpAnyH_take (i := 16) (v := ?v14) (by simp only [List.getElem?_toArray, List.getElem?_cons_succ, List.getElem?_cons_zero]; exact rfl) (by kernel_rfl) (by kernel_rfl) (by kernel_rfl) (by intro _ _ _ h; exact h) (Or.inl ⟨by rfl, ?y14⟩) hHeld ?_
    case y14 => (intro w hSw; (try dsimp only at hSw); go_simp; try (with_reducible rfl))
    try simp only [Act.put, List.setIfInBounds_toArray, List.set_cons_zero, List.set_cons_succ]
    refine wpAnyH_take (i := 17) (v := ?v15) (by simp only [List.getElem?_toArray, List.getElem?_cons_succ, List.getElem?_cons_zero]; exact rfl) (by kernel_rfl) (by kernel_rfl) (by kernel_rfl) (by intro _ _ _ h; exact h) (Or.inl ⟨by rfl, ?y15⟩) hHeld ?_
    case y15 => (intro w hSw; (try dsimp only at hSw); go_simp; try (with_reducible rfl))
    try simp only [Act.put, List.setIfInBounds_toArray, List.set_cons_zero, List.set_cons_succ]
    refine wpAnyH_ready (rs := [7, 9]) (by kernel_rfl) (by simp) ?_
    refine (AllReadyH.cons (by simp only [List.getElem?_toArray, List.getElem?_cons_succ, List.getElem?_cons_zero]; exact rfl) (fun K hK => ?b16_7) (AllReadyH.cons (by simp only [List.getElem?_toArray, List.getElem?_cons_succ, List.getElem?_cons_zero]; exact rfl) (fun K hK => ?b16_9) AllReadyH.nil))
    case b16_7 =>
      go_simp
      refine (l1Copy_any _ _ _ (hd1 wd (hq2.trans (hbd.mono hq2.size))) (by omega)).mono ?_
      rintro e wy ⟨xc, rfl, hxc0, hb5⟩
      have hxc := hxc0.weak hbd.size
      try (have clit := (hb5.cell (cell_lt clit)).trans clit)
      have hbd := hbd.trans (hb5.mono hbd.size)
      clear hb5 e0 hxc0
      obtain ⟨wd, rfl⟩ : ∃ x, x = wy := ⟨_, rfl⟩
      have e0 := (hbd.cell (cell_lt c2)).trans c2
      try dsimp only
      refine hK.out _ _ ?h17 (fun hHeld => ?_)
      case h17 => first | exact ‹_› | (simp [*, go_sem])
      clear hK K
      try simp only [Act.put, List.setIfInBounds_toArray, List.set_cons_zero, List.set_cons_succ]
      refine wpAnyH_ready (rs := [9]) (by kernel_rfl) (by simp) ?_
      refine AllReadyH.cons (by simp only [List.getElem?_toArray, List.getElem?_cons_succ, List.getElem?_cons_zero]; exact rfl) (fun K hK => ?_) AllReadyH.nil
      go_simp
      obtain ⟨nb, hnb⟩ : ∃ nb, nb = wd.heap.size := ⟨_, rfl⟩
      rw [← hnb]
      have hbn : Below wd.heap.size wd (wd.alloc (.cells #[.int .i64 (u : Int)] 2)) := (Below.refl _ _).alloc (Nat.le_refl _) _
      have clit : (wd.alloc (.cells #[.int .i64 (u : Int)] 2)).cell? ⟨nb, 0, none⟩ = some (.int .i64 (u : Int)) := (by rw [hnb]; simp [go_sem])
      try (have hxc := hxc.below hbn (Nat.le_refl _))
      have hbd := hbd.trans (hbn.mono hbd.size)
      clear hnb hbn e0
      generalize wd.alloc (.cells #[.int .i64 (u : Int)] 2) = wy at *
      obtain ⟨wd, rfl⟩ : ∃ x, x = wy := ⟨_, rfl⟩
      have e0 := (hbd.cell (cell_lt c2)).trans c2
      try dsimp only
      refine hK.out _ _ ?h19 (fun hHeld => ?_)
      case h19 => first | exact ‹_› | (simp [*, go_sem])
      clear hK K
      try simp only [Act.put, List.setIfInBounds_toArray, List.set_cons_zero, List.set_cons_succ]
      refine wpAnyH_ready (rs := [10]) (by kernel_rfl) (by simp) ?_
      refine AllReadyH.cons (by simp only [List.getElem?_toArray, List.getElem?_cons_succ, List.getElem?_cons_zero]; exact rfl) (fun K hK => ?_) AllReadyH.nil
      rw [if_pos (by rfl)]
      refine opWp_append1E elI64 _ _ rfl hxc rfl rfl clit rfl (by omega) hbd.size ?_
      intro v3 wy ho3 hk3 hm3
      have hbd := hk3.below hbd hbd.size (fun b hb => hxc.ge b hb)
      clear clit hk3 hm3 e0 hxc
      obtain ⟨wd, rfl⟩ : ∃ x, x = wy := ⟨_, rfl⟩
      have e0 := (hbd.cell (cell_lt c2)).trans c2
      try dsimp only
      refine hK.out _ _ ?h21 (fun hHeld => ?_)
      case h21 => first | exact ‹_› | (simp [*, go_sem])
      clear hK K
      try simp only [Act.put, List.setIfInBounds_toArray, List.set_cons_zero, List.set_cons_succ]
      refine wpAnyH_ready (rs := [18]) (by kernel_rfl) (by simp) ?_
      refine AllReadyH.cons (by simp only [List.getElem?_toArray, List.getElem?_cons_succ, List.getElem?_cons_zero]; exact rfl) (fun K hK => ?_) AllReadyH.nil
      rw [if_pos (by rfl)]
      refine opWp_appendI elI64 _ _ rfl ho3 rfl rfl (HD2.out wd (hq2.trans (hbd.mono hq2.size))) (by omega) hbd.size ?_
      intro v4 wy ho4 hk4
      have hbd := hk4.below hbd hbd.size (fun b hb => ho3.ge b hb)
      clear e0
      have e0 := (hbd.cell (cell_lt c2)).trans c2
      try dsimp only
      refine hK.out _ _ ?h23 (fun hHeld => ?_)
      case h23 => first | exact ‹_› | (simp [*, go_sem])
      clear hK K
      try simp only [Act.put, List.setIfInBounds_toArray, List.set_cons_zero, List.set_cons_succ]
      refine wpAnyH_take (i := 19) (v := ?v24) (by simp only [List.getElem?_toArray, List.getElem?_cons_succ, List.getElem?_cons_zero]; exact rfl) (by kernel_rfl) (by kernel_rfl) (by kernel_rfl) (by intro _ _ _ h; exact h) (Or.inl ⟨by rfl, ?y24⟩) hHeld ?_
      case y24 => (intro w hSw; (try dsimp only at hSw); go_simp; try (with_reducible rfl))
      try simp only [Act.put, List.setIfInBounds_toArray, List.set_cons_zero, List.set_cons_succ]
      refine wpAnyH_done (by kernel_rfl) ?_ _
      clear hHeld
      have hq5 := hq2.trans (hbd.mono hq2.size)
      have ho5 := ho2.below hbd (Nat.le_refl _)
      have hx5 : Own wy wi.heap.size 2 1 v4 ((A ++ [(u : Int)] ++ C).length) ((A ++ [(u : Int)] ++ C).map (.int .i64)) := (by rw [List.map_append, List.map_append, show (A ++ [(u : Int)] ++ C).length = A.length + 1 + C.length by simp only [List.length_append, List.length_singleton]]; exact ho4)
      have hxi := (hx5.ints (by simp only [List.length_append, List.length_singleton]; omega)).weak (S' := fun b => b < wy.heap.size ∧ b ≠ ob) (fun b hb => ⟨(hx5.lt b hb).2, by have := (hx5.lt b hb).1; omega⟩)
      have hf := HFIN.out wy v4 hq5 ho5 hxi
      have hfz := World.ownsRow.frozenAt ho5 v
      obtain ⟨u0, hdst⟩ : ∃ x, wy.cell? ⟨ob, v, none⟩ = some x := ⟨_, (World.ownsRow.cellAt ho5 v (by omega)).trans (List.getElem?_eq_getElem hNv)⟩
      obtain ⟨a4, c4, rfl⟩ := ho4.isSlice
      clear ho4 hx5 hxi ho5 ho2 HFIN HD2 hd1 hk4 ho3 hl1 hl2
      go_wp2
      go_ret
      exact ⟨_, rfl, hf.2, hf.1⟩
    case b16_9 =>
      go_simp
      obtain ⟨nb, hnb⟩ : ∃ nb, nb = wd.heap.size := ⟨_, rfl⟩
      rw [← hnb]
      have hbn : Below wd.heap.size wd (wd.alloc (.cells #[.int .i64 (u : Int)] 2)) := (Below.refl _ _).alloc (Nat.le_refl _) _
      have clit : (wd.alloc (.cells #[.int .i64 (u : Int)] 2)).cell? ⟨nb, 0, none⟩ = some (.int .i64 (u : Int)) := (by rw [hnb]; simp [go_sem])
      try (have hxc := hxc.below hbn (Nat.le_refl _))
      have hbd := hbd.trans (hbn.mono hbd.size)
      clear hnb hbn e0
      generalize wd.alloc (.cells #[.int .i64 (u : Int)] 2) = wy at *
      obtain ⟨wd, rfl⟩ : ∃ x, x = wy := ⟨_, rfl⟩
      have e0 := (hbd.cell (cell_lt c2)).trans c2
      try dsimp only
      refine hK.out _ _ ?h25 (fun hHeld => ?_)
      case h25 => first | exact ‹_› | (simp [*, go_sem])
      clear hK K
      try simp only [Act.put, List.setIfInBounds_toArray, List.set_cons_zero, List.set_cons_succ]
      refine wpAnyH_ready (rs := [7]) (by kernel_rfl) (by simp) ?_
      refine AllReadyH.cons (by simp only [List.getElem?_toArray, List.getElem?_cons_succ, List.getElem?_cons_zero]; exact rfl) (fun K hK => ?_) AllReadyH.nil
      go_simp
      refine (l1Copy_any _ _ _ (hd1 wd (hq2.trans (hbd.mono hq2.size))) (by omega)).mono ?_
      rintro e wy ⟨xc, rfl, hxc0, hb5⟩
      have hxc := hxc0.weak hbd.size
      try (have clit := (hb5.cell (cell_lt clit)).trans clit)
      have hbd := hbd.trans (hb5.mono hbd.size)
      clear hb5 e0 hxc0
      obtain ⟨wd, rfl⟩ : ∃ x, x = wy := ⟨_, rfl⟩
      have e0 := (hbd.cell (cell_lt c2)).trans c2
      try dsimp only
      refine hK.out _ _ ?h27 (fun hHeld => ?_)
      case h27 => first | exact ‹_› | (simp [*, go_sem])
      clear hK K
      try simp only [Act.put, List.setIfInBounds_toArray, List.set_cons_zero, List.set_cons_succ]
      refine wpAnyH_ready (rs := [10]) (by kernel_rfl) (by simp) ?_
      refine AllReadyH.cons (by simp only [List.getElem?_toArray, List.getElem?_cons_succ, List.getElem?_cons_zero]; exact rfl) (fun K hK => ?_) AllReadyH.nil
      rw [if_pos (by rfl)]
      refine opWp_append1E elI64 _ _ rfl hxc rfl rfl clit rfl (by omega) hbd.size ?_
      intro v3 wy ho3 hk3 hm3
      have hbd := hk3.below hbd hbd.size (fun b hb => hxc.ge b hb)
      clear clit hk3 hm3 e0 hxc
      obtain ⟨wd, rfl⟩ : ∃ x, x = wy := ⟨_, rfl⟩
      have e0 := (hbd.cell (cell_lt c2)).trans c2
      try dsimp only
      refine hK.out _ _ ?h29 (fun hHeld => ?_)
      case h29 => first | exact ‹_› | (simp [*, go_sem])
      clear hK K
      try simp only [Act.put, List.setIfInBounds_toArray, List.set_cons_zero, List.set_cons_succ]
      refine wpAnyH_ready (rs := [18]) (by kernel_rfl) (by simp) ?_
      refine AllReadyH.cons (by simp only [List.getElem?_toArray, List.getElem?_cons_succ, List.getElem?_cons_zero]; exact rfl) (fun K hK => ?_) AllReadyH.nil
      rw [if_pos (by rfl)]
      refine opWp_appendI elI64 _ _ rfl ho3 rfl rfl (HD2.out wd (hq2.trans (hbd.mono hq2.size))) (by omega) hbd.size ?_
      intro v4 wy ho4 hk4
      have hbd := hk4.below hbd hbd.size (fun b hb => ho3.ge b hb)
      clear e0
      have e0 := (hbd.cell (cell_lt c2)).trans c2
      try dsimp only
      refine hK.out _ _ ?h31 (fun hHeld => ?_)
      case h31 => first | exact ‹_› | (simp [*, go_sem])
      clear hK K
      try simp only [Act.put, List.setIfInBounds_toArray, List.set_cons_zero, List.set_cons_succ]
      refine wpAnyH_take (i := 19) (v := ?v32) (by simp only [List.getElem?_toArray, List.getElem?_cons_succ, List.getElem?_cons_zero]; exact rfl) (by kernel_rfl) (by kernel_rfl) (by kernel_rfl) (by intro _ _ _ h; exact h) (Or.inl ⟨by rfl, ?y32⟩) hHeld ?_
      case y32 => (intro w hSw; (try dsimp only at hSw); go_simp; try (with_reducible rfl))
      try simp only [Act.put, List.setIfInBounds_toArray, List.set_cons_zero, List.set_cons_succ]
      refine wpAnyH_done (by kernel_rfl) ?_ _
      clear hHeld
      have hq5 := hq2.trans (hbd.mono hq2.size)
      have ho5 := ho2.below hbd (Nat.le_refl _)
      have hx5 : Own wy wi.heap.size 2 1 v4 ((A ++ [(u : Int)] ++ C).length) ((A ++ [(u : Int)] ++ C).map (.int .i64)) := (by rw [List.map_append, List.map_append, show (A ++ [(u : Int)] ++ C).length = A.length + 1 + C.length by simp only [List.length_append, List.length_singleton]]; exact ho4)
      have hxi := (hx5.ints (by simp only [List.length_append, List.length_singleton]; omega)).weak (S' := fun b => b < wy.heap.size ∧ b ≠ ob) (fun b hb => ⟨(hx5.lt b hb).2, by have := (hx5.lt b hb).1; omega⟩)
      have hf := HFIN.out wy v4 hq5 ho5 hxi
      have hfz := World.ownsRow.frozenAt ho5 v
      obtain ⟨u0, hdst⟩ : ∃ x, wy.cell? ⟨ob, v, none⟩ = some x := ⟨_, (World.ownsRow.cellAt ho5 v (by omega)).trans (List.getElem?_eq_getElem hNv)⟩
      obtain ⟨a4, c4, rfl⟩ := ho4.isSlice
      clear ho4 hx5 hxi ho5 ho2 HFIN HD2 hd1 hk4 ho3 hl1 hl2
      go_wp2
      go_ret
      exact ⟨_, rfl, hf.2, hf.1⟩
theorem lessR_drop {a b : List (List Nat)} {k : Nat} (ha : k < a.length) (hb : k < b.length) : lessR (a.drop k) (b.drop k) = if a[k] = b[k] then lessR (a.drop (k + 1)) (b.drop (k + 1)) else lessN a[k] b[k] := by
  rw [List.drop_eq_getElem_cons ha, List.drop_eq_getElem_cons hb, lessR]
theorem lessR_end (a b : List (List Nat)) : lessR (a.drop a.length) (b.drop a.length) = false := by rw [List.drop_length]; rfl
theorem natsI_injE : ∀ {l m : List Nat}, natsI l = natsI m → l = m
  | [], [], _ => rfl
  | [], _ :: _, h => by simp [natsI] at h
  | _ :: _, [], h => by simp [natsI] at h
  | a :: l, b :: m, h => by
    unfold natsI at h
    rw [List.map_cons, List.map_cons, List.cons.injEq] at h
    rw [natsI_injE (l := l) (m := m) h.2, show a = b by omega]
set_option maxRecDepth 100000 in
set_option maxHeartbeats 4000000 in
theorem l22Less_any {S S' : Nat → Prop} {av bv : Value} {a b : List (List Nat)} {w : World} (hva : SlR S w av (a.map natsI)) (hvb : SlR S' w bv (b.map natsI)) (hl : b.length = a.length) :
    Calls Tryz.prog 114 #[av, bv] w fun e w' => e = .returned (.bool (lessR a b)) ∧ Drawn w w' := by
  obtain ⟨aa, ab, ao, ac, af, rfl, hal, haa, hac⟩ := hva
  obtain ⟨ba, bb, bo, bc, bf, rfl, hbl, hba, hbc⟩ := hvb
  rw [List.length_map] at hal haa hbl hba ⊢
  rw [List.length_map]
  have HAC := Lib.hid hac
  have HBC := Lib.hid hbc
  have HST := Lib.hid (fun k (h1 : k < a.length) (h2 : k < b.length) => lessR_drop h1 h2)
  have HEN := Lib.hid (lessR_end a b)
  have HL := Lib.hid hl
  have H0 := Lib.hid (show lessR a b = lessR (a.drop 0) (b.drop 0) by rw [List.drop_zero, List.drop_zero])
  clear hac hbc hl
  go_enter Tryz.func114, Tryz.ntmps114
  go_wp2
  go_loopw [5] (fun iv wr => ∃ k : Nat, k ≤ a.length ∧ iv = .int .i64 (k : Int) ∧ RowKit.Hid (lessR a b = lessR (a.drop k) (b.drop k)) ∧ Drawn w wr) (fun iv _ => a.length - (intOf iv).toNat)
  case atStart => exact ⟨0, Nat.zero_le _, rfl, H0, Drawn.refl _⟩
  case round =>
    clear H0
    obtain ⟨k, hk, rfl, HK, hd⟩ := hrel
    by_cases hka : k < a.length
    case neg =>
      obtain rfl : k = a.length := by omega
      have HF := Lib.hid (HK.out.trans HEN.out)
      go_wp2
      go_ret
      exact ⟨ret_bool HF.out.symm, hd⟩
    have hkb : k < b.length := by rw [HL.out]; exact hka
    obtain ⟨c1, r1⟩ := HAC.out k (by simpa using hka)
    obtain ⟨c2, r2⟩ := HBC.out k (by simpa using hkb)
    rw [List.getElem_map] at r1 r2
    have d1 := (hd.cell _).trans c1
    have d2 := (hd.cell _).trans c2
    obtain ⟨ra, rc, e1⟩ := r1.slice
    obtain ⟨rb, rd, e2⟩ := r2.slice
    rw [e1] at d1 r1
    rw [e2] at d2 r2
    have hs := HST.out k hka hkb
    have HN := Lib.hid (show decide (natsI a[k] = natsI b[k]) = decide (a[k] = b[k]) by
      rw [decide_eq_decide]; exact ⟨natsI_injE, fun h => by rw [h]⟩)
    have hsm := fun (W : World) (h : Drawn w W) => l1SameP_any _ _ _ _ W (r1.drawn h) (r2.drawn h)
    have hle := fun (W : World) (h : Drawn w W) => l1Less_any (r1.drawn h) (r2.drawn h)
    rw [HN.out] at hsm
    have hbI : (k : Int) < (b.length : Int) := by omega
    have haI : (k : Int) < (a.length : Int) := by omega
    obtain ⟨rfl, -⟩ := haa (by omega)
    obtain ⟨rfl, -⟩ := hba (by omega)
    clear r1 r2 e1 e2 c1 c2 HN
    obtain ⟨wi, rfl⟩ : ∃ x : World, x = wr := ⟨_, rfl⟩
    by_cases he : a[k] = b[k]
    · rw [if_pos he] at hs
      have HS := Lib.hid (HK.out.trans hs)
      rw [decide_eq_true he] at hsm
      clear hs he
      go_wp2
      refine wp_region_held_drew (S := (fun w' => w'.cell? ⟨ab, ao + k, none⟩ = some (.slice ra (natsI a[k]).length rc) ∧ w'.cell? ⟨bb, bo + k, none⟩ = some (.slice rb (natsI b[k]).length rd))) (by kernel_rfl) ?_ (fun hHeld => ?_)
      · first | exact ⟨‹_›, ‹_›⟩ | assumption | (simp [*, go_sem])
      have hdw := hd.drew
      generalize wi.drew = wd at hdw hHeld ⊢
      refine wpAnyH_take (i := 0) (v := ?v33) (by simp only [List.getElem?_toArray, List.getElem?_cons_zero]; exact rfl) (by kernel_rfl) (by kernel_rfl) (by kernel_rfl) (by intro _ _ _ h; exact h) (Or.inl ⟨by rfl, ?y33⟩) hHeld ?_
      case y33 => (intro w hSw; (try dsimp only at hSw); go_simp; try (with_reducible rfl))
      try simp only [Act.put, List.setIfInBounds_toArray, List.set_cons_zero, List.set_cons_succ]
      refine wpAnyH_take (i := 1) (v := ?v34) (by simp only [List.getElem?_toArray, List.getElem?_cons_succ, List.getElem?_cons_zero]; exact rfl) (by kernel_rfl) (by kernel_rfl) (by kernel_rfl) (by intro _ _ _ h; exact h) (Or.inl ⟨by rfl, ?y34⟩) hHeld ?_
      case y34 => (intro w hSw; (try dsimp only at hSw); go_simp; try (with_reducible rfl))
      try simp only [Act.put, List.setIfInBounds_toArray, List.set_cons_zero, List.set_cons_succ]
      refine wpAnyH_take (i := 2) (v := ?v35) (by simp only [List.getElem?_toArray, List.getElem?_cons_succ, List.getElem?_cons_zero]; exact rfl) (by kernel_rfl) (by kernel_rfl) (by kernel_rfl) (by intro _ _ _ h; exact h) (Or.inl ⟨by rfl, ?y35⟩) hHeld ?_
      case y35 => (intro w hSw; (try dsimp only at hSw); go_simp; try (with_reducible rfl))
      try simp only [Act.put, List.setIfInBounds_toArray, List.set_cons_zero, List.set_cons_succ]
      refine wpAnyH_take (i := 3) (v := ?v36) (by simp only [List.getElem?_toArray, List.getElem?_cons_succ, List.getElem?_cons_zero]; exact rfl) (by kernel_rfl) (by kernel_rfl) (by kernel_rfl) (by intro _ _ _ h; exact h) (Or.inl ⟨by rfl, ?y36⟩) hHeld ?_
      case y36 => (intro w hSw; (try dsimp only at hSw); go_simp; try (with_reducible rfl))
      try simp only [Act.put, List.setIfInBounds_toArray, List.set_cons_zero, List.set_cons_succ]
      refine wpAnyH_take (i := 4) (v := ?v37) (by simp only [List.getElem?_toArray, List.getElem?_cons_succ, List.getElem?_cons_zero]; exact rfl) (by kernel_rfl) (by kernel_rfl) (by kernel_rfl) (by intro _ _ _ h; exact h) (Or.inl ⟨by rfl, ?y37⟩) hHeld ?_
      case y37 => (intro w hSw; (try dsimp only at hSw); go_simp; try (with_reducible rfl))
      try simp only [Act.put, List.setIfInBounds_toArray, List.set_cons_zero, List.set_cons_succ]
      refine wpAnyH_take (i := 5) (v := ?v38) (by simp only [List.getElem?_toArray, List.getElem?_cons_succ, List.getElem?_cons_zero]; exact rfl) (by kernel_rfl) (by kernel_rfl) (by kernel_rfl) (by intro _ _ _ h; exact h) (Or.inl ⟨by rfl, ?y38⟩) hHeld ?_
      case y38 => (intro w hSw; (try dsimp only at hSw); go_simp; try (with_reducible rfl))
      try simp only [Act.put, List.setIfInBounds_toArray, List.set_cons_zero, List.set_cons_succ]
      refine wpAnyH_take (i := 6) (v := ?v39) (by simp only [List.getElem?_toArray, List.getElem?_cons_succ, List.getElem?_cons_zero]; exact rfl) (by kernel_rfl) (by kernel_rfl) (by kernel_rfl) (by intro _ _ _ h; exact h) (Or.inl ⟨by rfl, ?y39⟩) hHeld ?_
      case y39 => (intro w hSw; (try dsimp only at hSw); go_simp; try (with_reducible rfl))
      try simp only [Act.put, List.setIfInBounds_toArray, List.set_cons_zero, List.set_cons_succ]
      refine wpAnyH_take (i := 7) (v := ?v40) (by simp only [List.getElem?_toArray, List.getElem?_cons_succ, List.getElem?_cons_zero]; exact rfl) (by kernel_rfl) (by kernel_rfl) (by kernel_rfl) (by intro _ _ _ h; exact h) (Or.inl ⟨by rfl, ?y40⟩) hHeld ?_
      case y40 => (intro w hSw; (try dsimp only at hSw); go_simp; try (with_reducible rfl))
      try simp only [Act.put, List.setIfInBounds_toArray, List.set_cons_zero, List.set_cons_succ]
      refine wpAnyH_ready (rs := [8]) (by kernel_rfl) (by simp) ?_
      refine AllReadyH.cons (by simp only [List.getElem?_toArray, List.getElem?_cons_succ, List.getElem?_cons_zero]; exact rfl) (fun K hK => ?_) AllReadyH.nil
      go_simp
      refine (hsm wd hdw).mono ?_
      rintro e wy ⟨rfl, hd5⟩
      replace hHeld := And.intro ((hd5.cell _).trans hHeld.1) ((hd5.cell _).trans hHeld.2)
      have hdw := hdw.trans hd5
      try dsimp only
      refine hK.out _ _ ?h42 (fun hHeld => ?_)
      case h42 => first | exact ⟨‹_›, ‹_›⟩ | assumption | (simp [*, go_sem])
      clear hK K
      try simp only [Act.put, List.setIfInBounds_toArray, List.set_cons_zero, List.set_cons_succ]
      refine wpAnyH_take (i := 9) (v := ?v43) (by simp only [List.getElem?_toArray, List.getElem?_cons_succ, List.getElem?_cons_zero]; exact rfl) (by kernel_rfl) (by kernel_rfl) (by kernel_rfl) (by intro _ _ _ h; exact h) (Or.inl ⟨by rfl, ?y43⟩) hHeld ?_
      case y43 => (intro w hSw; (try dsimp only at hSw); go_simp; try (with_reducible rfl))
      try simp only [Act.put, List.setIfInBounds_toArray, List.set_cons_zero, List.set_cons_succ]
      refine wpAnyH_done (by kernel_rfl) ?_ _
      go_wp2
      go_roundw
      case rel => exact ⟨k + 1, by omega, by go_num, HS, hdw⟩
      case measure => (simp [intOf] <;> omega)
    · rw [if_neg he] at hs
      have HS := Lib.hid (HK.out.trans hs)
      rw [decide_eq_false he] at hsm
      clear hs he
      go_wp2
      refine wp_region_held_drew (S := (fun w' => w'.cell? ⟨ab, ao + k, none⟩ = some (.slice ra (natsI a[k]).length rc) ∧ w'.cell? ⟨bb, bo + k, none⟩ = some (.slice rb (natsI b[k]).length rd))) (by kernel_rfl) ?_ (fun hHeld => ?_)
      · first | exact ⟨‹_›, ‹_›⟩ | assumption | (simp [*, go_sem])
      have hdw := hd.drew
      generalize wi.drew = wd at hdw hHeld ⊢
      refine wpAnyH_take (i := 0) (v := ?v44) (by simp only [List.getElem?_toArray, List.getElem?_cons_zero]; exact rfl) (by kernel_rfl) (by kernel_rfl) (by kernel_rfl) (by intro _ _ _ h; exact h) (Or.inl ⟨by rfl, ?y44⟩) hHeld ?_
      case y44 => (intro w hSw; (try dsimp only at hSw); go_simp; try (with_reducible rfl))
      try simp only [Act.put, List.setIfInBounds_toArray, List.set_cons_zero, List.set_cons_succ]
      refine wpAnyH_take (i := 1) (v := ?v45) (by simp only [List.getElem?_toArray, List.getElem?_cons_succ, List.getElem?_cons_zero]; exact rfl) (by kernel_rfl) (by kernel_rfl) (by kernel_rfl) (by intro _ _ _ h; exact h) (Or.inl ⟨by rfl, ?y45⟩) hHeld ?_
      case y45 => (intro w hSw; (try dsimp only at hSw); go_simp; try (with_reducible rfl))
      try simp only [Act.put, List.setIfInBounds_toArray, List.set_cons_zero, List.set_cons_succ]
      refine wpAnyH_take (i := 2) (v := ?v46) (by simp only [List.getElem?_toArray, List.getElem?_cons_succ, List.getElem?_cons_zero]; exact rfl) (by kernel_rfl) (by kernel_rfl) (by kernel_rfl) (by intro _ _ _ h; exact h) (Or.inl ⟨by rfl, ?y46⟩) hHeld ?_
      case y46 => (intro w hSw; (try dsimp only at hSw); go_simp; try (with_reducible rfl))
      try simp only [Act.put, List.setIfInBounds_toArray, List.set_cons_zero, List.set_cons_succ]
      refine wpAnyH_take (i := 3) (v := ?v47) (by simp only [List.getElem?_toArray, List.getElem?_cons_succ, List.getElem?_cons_zero]; exact rfl) (by kernel_rfl) (by kernel_rfl) (by kernel_rfl) (by intro _ _ _ h; exact h) (Or.inl ⟨by rfl, ?y47⟩) hHeld ?_
      case y47 => (intro w hSw; (try dsimp only at hSw); go_simp; try (with_reducible rfl))
      try simp only [Act.put, List.setIfInBounds_toArray, List.set_cons_zero, List.set_cons_succ]
      refine wpAnyH_take (i := 4) (v := ?v48) (by simp only [List.getElem?_toArray, List.getElem?_cons_succ, List.getElem?_cons_zero]; exact rfl) (by kernel_rfl) (by kernel_rfl) (by kernel_rfl) (by intro _ _ _ h; exact h) (Or.inl ⟨by rfl, ?y48⟩) hHeld ?_
      case y48 => (intro w hSw; (try dsimp only at hSw); go_simp; try (with_reducible rfl))
      try simp only [Act.put, List.setIfInBounds_toArray, List.set_cons_zero, List.set_cons_succ]
      refine wpAnyH_take (i := 5) (v := ?v49) (by simp only [List.getElem?_toArray, List.getElem?_cons_succ, List.getElem?_cons_zero]; exact rfl) (by kernel_rfl) (by kernel_rfl) (by kernel_rfl) (by intro _ _ _ h; exact h) (Or.inl ⟨by rfl, ?y49⟩) hHeld ?_
      case y49 => (intro w hSw; (try dsimp only at hSw); go_simp; try (with_reducible rfl))
      try simp only [Act.put, List.setIfInBounds_toArray, List.set_cons_zero, List.set_cons_succ]
      refine wpAnyH_take (i := 6) (v := ?v50) (by simp only [List.getElem?_toArray, List.getElem?_cons_succ, List.getElem?_cons_zero]; exact rfl) (by kernel_rfl) (by kernel_rfl) (by kernel_rfl) (by intro _ _ _ h; exact h) (Or.inl ⟨by rfl, ?y50⟩) hHeld ?_
      case y50 => (intro w hSw; (try dsimp only at hSw); go_simp; try (with_reducible rfl))
      try simp only [Act.put, List.setIfInBounds_toArray, List.set_cons_zero, List.set_cons_succ]
      refine wpAnyH_take (i := 7) (v := ?v51) (by simp only [List.getElem?_toArray, List.getElem?_cons_succ, List.getElem?_cons_zero]; exact rfl) (by kernel_rfl) (by kernel_rfl) (by kernel_rfl) (by intro _ _ _ h; exact h) (Or.inl ⟨by rfl, ?y51⟩) hHeld ?_
      case y51 => (intro w hSw; (try dsimp only at hSw); go_simp; try (with_reducible rfl))
      try simp only [Act.put, List.setIfInBounds_toArray, List.set_cons_zero, List.set_cons_succ]
      refine wpAnyH_ready (rs := [8]) (by kernel_rfl) (by simp) ?_
      refine AllReadyH.cons (by simp only [List.getElem?_toArray, List.getElem?_cons_succ, List.getElem?_cons_zero]; exact rfl) (fun K hK => ?_) AllReadyH.nil
      go_simp
      refine (hsm wd hdw).mono ?_
      rintro e wy ⟨rfl, hd5⟩
      replace hHeld := And.intro ((hd5.cell _).trans hHeld.1) ((hd5.cell _).trans hHeld.2)
      have hdw := hdw.trans hd5
      try dsimp only
      refine hK.out _ _ ?h53 (fun hHeld => ?_)
      case h53 => first | exact ⟨‹_›, ‹_›⟩ | assumption | (simp [*, go_sem])
      clear hK K
      try simp only [Act.put, List.setIfInBounds_toArray, List.set_cons_zero, List.set_cons_succ]
      refine wpAnyH_take (i := 9) (v := ?v54) (by simp only [List.getElem?_toArray, List.getElem?_cons_succ, List.getElem?_cons_zero]; exact rfl) (by kernel_rfl) (by kernel_rfl) (by kernel_rfl) (by intro _ _ _ h; exact h) (Or.inl ⟨by rfl, ?y54⟩) hHeld ?_
      case y54 => (intro w hSw; (try dsimp only at hSw); go_simp; try (with_reducible rfl))
      try simp only [Act.put, List.setIfInBounds_toArray, List.set_cons_zero, List.set_cons_succ]
      refine wpAnyH_done (by kernel_rfl) ?_ _
      obtain ⟨d3, d4⟩ := hHeld
      go_wp2
      refine wp_region_held_drew (S := (fun w' => w'.cell? ⟨ab, ao + k, none⟩ = some (.slice ra (natsI a[k]).length rc) ∧ w'.cell? ⟨bb, bo + k, none⟩ = some (.slice rb (natsI b[k]).length rd))) (by kernel_rfl) ?_ (fun hHeld => ?_)
      · first | exact ⟨‹_›, ‹_›⟩ | assumption | (simp [*, go_sem])
      have hdv := hdw.drew
      generalize wy.drew = wd at hdv hHeld ⊢
      refine wpAnyH_take (i := 0) (v := ?v55) (by simp only [List.getElem?_toArray, List.getElem?_cons_zero]; exact rfl) (by kernel_rfl) (by kernel_rfl) (by kernel_rfl) (by intro _ _ _ h; exact h) (Or.inl ⟨by rfl, ?y55⟩) hHeld ?_
      case y55 => (intro w hSw; (try dsimp only at hSw); go_simp; try (with_reducible rfl))
      try simp only [Act.put, List.setIfInBounds_toArray, List.set_cons_zero, List.set_cons_succ]
      refine wpAnyH_take (i := 1) (v := ?v56) (by simp only [List.getElem?_toArray, List.getElem?_cons_succ, List.getElem?_cons_zero]; exact rfl) (by kernel_rfl) (by kernel_rfl) (by kernel_rfl) (by intro _ _ _ h; exact h) (Or.inl ⟨by rfl, ?y56⟩) hHeld ?_
      case y56 => (intro w hSw; (try dsimp only at hSw); go_simp; try (with_reducible rfl))
      try simp only [Act.put, List.setIfInBounds_toArray, List.set_cons_zero, List.set_cons_succ]
      refine wpAnyH_take (i := 2) (v := ?v57) (by simp only [List.getElem?_toArray, List.getElem?_cons_succ, List.getElem?_cons_zero]; exact rfl) (by kernel_rfl) (by kernel_rfl) (by kernel_rfl) (by intro _ _ _ h; exact h) (Or.inl ⟨by rfl, ?y57⟩) hHeld ?_
      case y57 => (intro w hSw; (try dsimp only at hSw); go_simp; try (with_reducible rfl))
      try simp only [Act.put, List.setIfInBounds_toArray, List.set_cons_zero, List.set_cons_succ]
      refine wpAnyH_take (i := 3) (v := ?v58) (by simp only [List.getElem?_toArray, List.getElem?_cons_succ, List.getElem?_cons_zero]; exact rfl) (by kernel_rfl) (by kernel_rfl) (by kernel_rfl) (by intro _ _ _ h; exact h) (Or.inl ⟨by rfl, ?y58⟩) hHeld ?_
      case y58 => (intro w hSw; (try dsimp only at hSw); go_simp; try (with_reducible rfl))
      try simp only [Act.put, List.setIfInBounds_toArray, List.set_cons_zero, List.set_cons_succ]
      refine wpAnyH_take (i := 4) (v := ?v59) (by simp only [List.getElem?_toArray, List.getElem?_cons_succ, List.getElem?_cons_zero]; exact rfl) (by kernel_rfl) (by kernel_rfl) (by kernel_rfl) (by intro _ _ _ h; exact h) (Or.inl ⟨by rfl, ?y59⟩) hHeld ?_
      case y59 => (intro w hSw; (try dsimp only at hSw); go_simp; try (with_reducible rfl))
      try simp only [Act.put, List.setIfInBounds_toArray, List.set_cons_zero, List.set_cons_succ]
      refine wpAnyH_take (i := 5) (v := ?v60) (by simp only [List.getElem?_toArray, List.getElem?_cons_succ, List.getElem?_cons_zero]; exact rfl) (by kernel_rfl) (by kernel_rfl) (by kernel_rfl) (by intro _ _ _ h; exact h) (Or.inl ⟨by rfl, ?y60⟩) hHeld ?_
      case y60 => (intro w hSw; (try dsimp only at hSw); go_simp; try (with_reducible rfl))
      try simp only [Act.put, List.setIfInBounds_toArray, List.set_cons_zero, List.set_cons_succ]
      refine wpAnyH_take (i := 6) (v := ?v61) (by simp only [List.getElem?_toArray, List.getElem?_cons_succ, List.getElem?_cons_zero]; exact rfl) (by kernel_rfl) (by kernel_rfl) (by kernel_rfl) (by intro _ _ _ h; exact h) (Or.inl ⟨by rfl, ?y61⟩) hHeld ?_
      case y61 => (intro w hSw; (try dsimp only at hSw); go_simp; try (with_reducible rfl))
      try simp only [Act.put, List.setIfInBounds_toArray, List.set_cons_zero, List.set_cons_succ]
      refine wpAnyH_take (i := 7) (v := ?v62) (by simp only [List.getElem?_toArray, List.getElem?_cons_succ, List.getElem?_cons_zero]; exact rfl) (by kernel_rfl) (by kernel_rfl) (by kernel_rfl) (by intro _ _ _ h; exact h) (Or.inl ⟨by rfl, ?y62⟩) hHeld ?_
      case y62 => (intro w hSw; (try dsimp only at hSw); go_simp; try (with_reducible rfl))
      try simp only [Act.put, List.setIfInBounds_toArray, List.set_cons_zero, List.set_cons_succ]
      refine wpAnyH_ready (rs := [8]) (by kernel_rfl) (by simp) ?_
      refine AllReadyH.cons (by simp only [List.getElem?_toArray, List.getElem?_cons_succ, List.getElem?_cons_zero]; exact rfl) (fun K hK => ?_) AllReadyH.nil
      go_simp
      refine (hle wd hdv).mono ?_
      rintro e wz ⟨rfl, hd6⟩
      replace hHeld := And.intro ((hd6.cell _).trans hHeld.1) ((hd6.cell _).trans hHeld.2)
      have hdv := hdv.trans hd6
      try dsimp only
      refine hK.out _ _ ?h64 (fun hHeld => ?_)
      case h64 => first | exact ⟨‹_›, ‹_›⟩ | assumption | (simp [*, go_sem])
      clear hK K
      try simp only [Act.put, List.setIfInBounds_toArray, List.set_cons_zero, List.set_cons_succ]
      refine wpAnyH_take (i := 9) (v := ?v65) (by simp only [List.getElem?_toArray, List.getElem?_cons_succ, List.getElem?_cons_zero]; exact rfl) (by kernel_rfl) (by kernel_rfl) (by kernel_rfl) (by intro _ _ _ h; exact h) (Or.inl ⟨by rfl, ?y65⟩) hHeld ?_
      case y65 => (intro w hSw; (try dsimp only at hSw); go_simp; try (with_reducible rfl))
      try simp only [Act.put, List.setIfInBounds_toArray, List.set_cons_zero, List.set_cons_succ]
      refine wpAnyH_done (by kernel_rfl) ?_ _
      go_wp2
      go_ret
      exact ⟨ret_bool HS.out.symm, hdv⟩
theorem SlI.nilE (S : Nat → Prop) (w : World) (k : IntKind) {c : Nat} (hc : c ≤ 9223372036854775807) : SlI S w k (.slice none 0 c) [] := ⟨none, 0, 0, c, rfl, ⟨Nat.zero_le _, hc⟩, fun h => by simp at h, fun i hi => by simp at hi⟩
set_option maxRecDepth 100000 in
set_option maxHeartbeats 4000000 in
theorem l22FirstNil_any (c : Nat) (hc : c ≤ 9223372036854775807) (w : World) :
    Calls Tryz.prog 113 #[.slice none 0 c] w fun e w' => ∃ u, e = .returned u ∧ Own w' w.heap.size 2 1 u 0 ((natsI []).map (.int .i64)) ∧ Below w.heap.size w w' := by
  go_enter Tryz.func113, Tryz.ntmps113
  go_wp2
  go_loopw [4, 3] (fun i j wr => i = .int .i64 0 ∧ j = .int .i64 0 ∧ Drawn w wr) (fun _ _ _ => 0)
  case atStart => exact ⟨rfl, rfl, Drawn.refl _⟩
  case round =>
    obtain ⟨rfl, rfl, hq⟩ := hrel
    go_wp2
    refine wp_region_held_drew (S := (fun _ => True)) (by kernel_rfl) ?_ (fun hHeld => ?_)
    · trivial
    have hdw : Drawn wr wr.drew := (Drawn.refl _).drew
    generalize wr.drew = wd at hdw hHeld ⊢
    refine wpAnyH_take (i := 0) (v := ?v66) (by simp only [List.getElem?_toArray, List.getElem?_cons_zero]; exact rfl) (by kernel_rfl) (by kernel_rfl) (by kernel_rfl) (by intro _ _ _ h; exact h) (Or.inl ⟨by rfl, ?y66⟩) hHeld ?_
    case y66 => (intro w hSw; (try dsimp only at hSw); go_simp; try (with_reducible rfl))
    try simp only [Act.put, List.setIfInBounds_toArray, List.set_cons_zero, List.set_cons_succ]
    refine wpAnyH_take (i := 1) (v := ?v67) (by simp only [List.getElem?_toArray, List.getElem?_cons_succ, List.getElem?_cons_zero]; exact rfl) (by kernel_rfl) (by kernel_rfl) (by kernel_rfl) (by intro _ _ _ h; exact h) (Or.inl ⟨by rfl, ?y67⟩) hHeld ?_
    case y67 => (intro w hSw; (try dsimp only at hSw); go_simp; try (with_reducible rfl))
    try simp only [Act.put, List.setIfInBounds_toArray, List.set_cons_zero, List.set_cons_succ]
    refine wpAnyH_take (i := 2) (v := ?v68) (by simp only [List.getElem?_toArray, List.getElem?_cons_succ, List.getElem?_cons_zero]; exact rfl) (by kernel_rfl) (by kernel_rfl) (by kernel_rfl) (by intro _ _ _ h; exact h) (Or.inl ⟨by rfl, ?y68⟩) hHeld ?_
    case y68 => (intro w hSw; (try dsimp only at hSw); go_simp; try (with_reducible rfl))
    try simp only [Act.put, List.setIfInBounds_toArray, List.set_cons_zero, List.set_cons_succ]
    refine wpAnyH_take (i := 4) (v := ?v69) (by simp only [List.getElem?_toArray, List.getElem?_cons_succ, List.getElem?_cons_zero]; exact rfl) (by kernel_rfl) (by kernel_rfl) (by kernel_rfl) (by intro _ _ _ h; exact h) (Or.inl ⟨by rfl, ?y69⟩) hHeld ?_
    case y69 => (intro w hSw; (try dsimp only at hSw); go_simp; try (with_reducible rfl))
    try simp only [Act.put, List.setIfInBounds_toArray, List.set_cons_zero, List.set_cons_succ]
    refine wpAnyH_take (i := 5) (v := ?v70) (by simp only [List.getElem?_toArray, List.getElem?_cons_succ, List.getElem?_cons_zero]; exact rfl) (by kernel_rfl) (by kernel_rfl) (by kernel_rfl) (by intro _ _ _ h; exact h) (Or.inl ⟨by rfl, ?y70⟩) hHeld ?_
    case y70 => (intro w hSw; (try dsimp only at hSw); go_simp; try (with_reducible rfl))
    try simp only [Act.put, List.setIfInBounds_toArray, List.set_cons_zero, List.set_cons_succ]
    refine wpAnyH_take (i := 6) (v := ?v71) (by simp only [List.getElem?_toArray, List.getElem?_cons_succ, List.getElem?_cons_zero]; exact rfl) (by kernel_rfl) (by kernel_rfl) (by kernel_rfl) (by intro _ _ _ h; exact h) (Or.inl ⟨by rfl, ?y71⟩) hHeld ?_
    case y71 => (intro w hSw; (try dsimp only at hSw); go_simp; try (with_reducible rfl))
    try simp only [Act.put, List.setIfInBounds_toArray, List.set_cons_zero, List.set_cons_succ]
    refine wpAnyH_ready (rs := [3]) (by kernel_rfl) (by simp) ?_
    refine AllReadyH.cons (by simp only [List.getElem?_toArray, List.getElem?_cons_succ, List.getElem?_cons_zero]; exact rfl) (fun K hK => ?_) AllReadyH.nil
    go_simp
    refine (l1Copy_any _ _ _ (SlI.nilE (fun _ => True) _ .i64 (by omega)) (by simp)).mono ?_
    rintro e w3 ⟨xc, rfl, hxc, hb3⟩
    try dsimp only
    refine hK.out _ _ ?h73 (fun hHeld => ?_)
    case h73 => trivial
    clear hK K
    try simp only [Act.put, List.setIfInBounds_toArray, List.set_cons_zero, List.set_cons_succ]
    refine wpAnyH_ready (rs := [7]) (by kernel_rfl) (by simp) ?_
    refine AllReadyH.cons (by simp only [List.getElem?_toArray, List.getElem?_cons_succ, List.getElem?_cons_zero]; exact rfl) (fun K hK => ?_) AllReadyH.nil
    rw [if_pos (by rfl)]
    refine opWp_appendI elI64 _ _ rfl hxc rfl rfl (SlI.nilE (fun _ => True) _ .i64 (by omega)) (by simp) hb3.size ?_
    intro v' w4 hown4 hkept
    try dsimp only
    refine hK.out _ _ ?h75 (fun hHeld => ?_)
    case h75 => trivial
    clear hK K
    try simp only [Act.put, List.setIfInBounds_toArray, List.set_cons_zero, List.set_cons_succ]
    refine wpAnyH_take (i := 8) (v := ?v76) (by simp only [List.getElem?_toArray, List.getElem?_cons_succ, List.getElem?_cons_zero]; exact rfl) (by kernel_rfl) (by kernel_rfl) (by kernel_rfl) (by intro _ _ _ h; exact h) (Or.inl ⟨by rfl, ?y76⟩) hHeld ?_
    case y76 => (intro w hSw; (try dsimp only at hSw); go_simp; try (with_reducible rfl))
    try simp only [Act.put, List.setIfInBounds_toArray, List.set_cons_zero, List.set_cons_succ]
    refine wpAnyH_done (by kernel_rfl) ?_ _
    skip
    have hq3 := ((hq.trans hdw).below _).trans (hb3.mono ((hq.trans hdw).below w.heap.size).size)
    have hq4 := hkept.below hq3 hq3.size (fun c h => Nat.le_trans ((hq.trans hdw).below w.heap.size).size (hxc.lt c h).1)
    have hown5 := hown4.weak ((hq.trans hdw).below w.heap.size).size
    clear hown4 hkept hb3 hxc
    go_wp2
    go_ret
    exact ⟨_, rfl, by simpa [natsI] using hown5, hq4⟩
theorem l22FirstE_any {S : Nat → Prop} {v : Value} {l : List Nat} {w : World} (hv : SlI S w .i64 v (natsI l)) (hn : l.length ≤ 16) :
    Calls Tryz.prog 113 #[v] w fun e w' => ∃ u, e = .returned u ∧ Own w' w.heap.size 2 1 u (rotL l).length ((natsI (rotL l)).map (.int .i64)) ∧ Below w.heap.size w w' := by
  have hlen : (rotL l).length = l.length := (rotL_perm l).length_eq
  rw [hlen]
  obtain ⟨a, c, e⟩ := hv.slice
  cases a with
  | some ad => exact l22First_any v l w hv (by omega) ⟨ad, _, c, e⟩
  | none =>
    obtain ⟨a', b', off', cap', e', hl, ha, hc⟩ := hv
    have h0 : l = [] := by
      cases l with
      | nil => rfl
      | cons x l =>
        have := (ha (by simp [natsI])).1
        rw [e'] at e
        simp only [Value.slice.injEq] at e
        rw [e.1] at this; cases this
    subst h0
    rw [e'] at e ⊢
    simp only [Value.slice.injEq] at e
    rw [e.1]
    exact l22FirstNil_any cap' hl.2 w
theorem SlR.tailE {S : Nat → Prop} {w : World} {b off N cap : Nat} {r : List Int} {g : List (List Int)} (h : SlR S w (.slice (some ⟨b, off, none⟩) N cap) (r :: g)) : SlR S w (.slice (if cap = 1 then some ⟨b, off, none⟩ else some ⟨b, off + 1, none⟩) (N - 1) (cap - 1)) g := by
  obtain ⟨a', b', off', cap', f, hv, hl, ha, hc⟩ := h
  simp only [Value.slice.injEq] at hv
  obtain ⟨rfl, rfl, rfl⟩ := hv
  rw [List.length_cons] at hl ha ⊢
  obtain ⟨ha1, hS⟩ := ha (by omega)
  simp only [Option.some.injEq, Addr.mk.injEq, and_true] at ha1
  obtain ⟨rfl, rfl⟩ := ha1
  by_cases hg : 0 < g.length
  · rw [if_neg (by omega)]
    refine ⟨_, b, off + 1, cap - 1, fun i => f (i + 1), by congr 1, ⟨by omega, by omega⟩, fun _ => ⟨rfl, hS⟩, fun i hi => ?_⟩
    have := hc (i + 1) (by simpa using hi)
    rw [List.getElem_cons_succ, show off + (i + 1) = off + 1 + i by omega] at this
    exact this
  · have : g = [] := List.eq_nil_of_length_eq_zero (by omega)
    subst this
    exact ⟨_, b, off, cap - 1, f, rfl, ⟨Nat.zero_le _, by omega⟩, fun h => by simp at h, fun i hi => by simp at hi⟩
/-! The state after some rounds. -/
noncomputable def lvE (u v : Nat) (es : List (Nat × Nat)) (t : List (List Nat)) (i k : Nat) : List (List (List Nat)) := srchS es (stepE t u v i k)
noncomputable def outE (u v : Nat) (es : List (Nat × Nat)) (t : List (List Nat)) (b : Nat) (p : Int × List (List Nat)) (i : Nat) : Int × List (List Nat) := ((List.range i).flatMap fun i => (List.range b).flatMap fun k => lvE u v es t i k).foldl stepW p
noncomputable def inE (u v : Nat) (es : List (Nat × Nat)) (t : List (List Nat)) (b : Nat) (p : Int × List (List Nat)) (i k : Nat) : Int × List (List Nat) := ((List.range k).flatMap fun k => lvE u v es t i k).foldl stepW (outE u v es t b p i)
theorem outE_succ (u v : Nat) (es : List (Nat × Nat)) (t : List (List Nat)) (b : Nat) (p : Int × List (List Nat)) (i : Nat) : outE u v es t b p (i + 1) = inE u v es t b p i b := by
  unfold inE outE
  rw [List.range_succ, List.flatMap_append, List.foldl_append]; simp
theorem inE_zero (u v : Nat) (es : List (Nat × Nat)) (t : List (List Nat)) (b : Nat) (p : Int × List (List Nat)) (i : Nat) : inE u v es t b p i 0 = outE u v es t b p i := rfl
theorem inE_succ (u v : Nat) (es : List (Nat × Nat)) (t : List (List Nat)) (b : Nat) (p : Int × List (List Nat)) (i k : Nat) : inE u v es t b p i (k + 1) = (lvE u v es t i k).foldl stepW (inE u v es t b p i k) := by
  unfold inE
  rw [List.range_succ, List.flatMap_append, List.foldl_append]; simp
theorem srchS_cons {e : Nat × Nat} {es : List (Nat × Nat)} {t : List (List Nat)} (h0 : twiceI t = 0) (p : Int × List (List Nat)) : (srchS (e :: es) t).foldl stepW p = outE e.1 e.2 es t (max 1 (t.getD e.2 []).length) p (max 1 (t.getD e.1 []).length) := by
  rw [srchS, if_pos h0]; rfl
/-- The least so far is none, or has a row for each vertex. -/
def BestL (n : Nat) (b : List (List Nat)) : Prop := b = [] ∨ b.length = n
theorem bestL_fold {n : Nat} : ∀ (l : List (List (List Nat))) (p : Int × List (List Nat)), (∀ a ∈ l, a.length = n) → BestL n p.2 → BestL n (l.foldl stepW p).2
  | [], _, _, h => h
  | a :: l, p, hl, h => by
    rw [List.foldl_cons]
    refine bestL_fold l _ (fun x hx => hl x (by simp [hx])) ?_
    unfold stepW bestStepR
    simp only
    split
    · exact .inr (hl a (by simp))
    · exact h
theorem srchS_rows {n : Nat} {es L : List (Nat × Nat)} {t : List (List Nat)} (hE : EdgeL n (L ++ es)) (h : HasE n t L) : ∀ a ∈ srchS es t, a.length = n := fun a ha => by
  obtain ⟨t', h1, h2⟩ := srchS_mem es L t hE h ha
  rw [h2, List.length_map, h1.len]
/-- What the search is known to answer. -/
def SearchP (n : Nat) (es : List (Nat × Nat)) : Prop := ∀ (L : List (Nat × Nat)) (t : List (List Nat)) (m : Int) (b : List (List Nat)) (S1 S2 S3 : Nat → Prop) (ev tv bv : Value) (w : World), EdgeL n (L ++ es) → HasE n t L → BestL n b → SlR S1 w ev (rowsP es) → SlR S2 w tv (t.map natsI) → RowO S3 w bv (b.map natsI) → (∀ x, S3 x → x < w.heap.size) →
  Calls Tryz.prog 86 #[ev, tv, .agg #[.int .i64 m, bv]] w fun e w' => ∃ bv', e = .returned (.agg #[.int .i64 ((srchS es t).foldl stepW (m, b)).1, bv']) ∧ RowO (fun x => (S3 x ∨ w.heap.size ≤ x) ∧ x < w'.heap.size) w' bv' (((srchS es t).foldl stepW (m, b)).2.map natsI) ∧ Below w.heap.size w w'
/-- The last store, and what is handed back. -/
theorem ways_fin {w W : World} {S3 : Nat → Prop} {m m0 : Int} {ba : Option Addr} {bn bc : Nat} {z : Value} {b : List (List Nat)} (hS3 : ∀ x, S3 x → x < w.heap.size) (hq : Below w.heap.size w W)
    (hbx : Own W w.heap.size 76 2 (.slice (some ⟨w.heap.size, 0, none⟩) 1 1) 1 [.int .i64 m, .slice ba bn bc]) (hre : Own W w.heap.size 76 2 (.slice (some ⟨w.heap.size + 1, 0, none⟩) 1 1) 1 [.int .i64 m0, z])
    (hb : RowO (fun x => (S3 x ∨ w.heap.size + 2 ≤ x) ∧ x < W.heap.size) W (.slice ba bn bc) (b.map natsI)) :
    RowO (fun x => (S3 x ∨ w.heap.size ≤ x) ∧ x < ((W.setCell ⟨w.heap.size + 1, 0, none⟩ (.int .i64 m)).setCell ⟨w.heap.size + 1, 1, none⟩ (.slice ba bn bc)).heap.size) ((W.setCell ⟨w.heap.size + 1, 0, none⟩ (.int .i64 m)).setCell ⟨w.heap.size + 1, 1, none⟩ (.slice ba bn bc)) (.slice ba bn bc) (b.map natsI) ∧
    Below w.heap.size w ((W.setCell ⟨w.heap.size + 1, 0, none⟩ (.int .i64 m)).setCell ⟨w.heap.size + 1, 1, none⟩ (.slice ba bn bc)) ∧
    ((W.setCell ⟨w.heap.size + 1, 0, none⟩ (.int .i64 m)).setCell ⟨w.heap.size + 1, 1, none⟩ (.slice ba bn bc)).cell? ⟨w.heap.size + 1, 0, none⟩ = some (.int .i64 m) ∧
    ((W.setCell ⟨w.heap.size + 1, 0, none⟩ (.int .i64 m)).setCell ⟨w.heap.size + 1, 1, none⟩ (.slice ba bn bc)).cell? ⟨w.heap.size + 1, 1, none⟩ = some (.slice ba bn bc) := by
  have hk1 := KeptBut.set W (w.heap.size + 1) 0 (.int .i64 m)
  have hk2 := hk1.trans (KeptBut.set (W.setCell ⟨w.heap.size + 1, 0, none⟩ (.int .i64 m)) (w.heap.size + 1) 1 (.slice ba bn bc))
  have h2 := own2_set hre (.int .i64 m) (.slice ba bn bc)
  obtain ⟨c0, c1, -⟩ := own2_cell h2
  refine ⟨(hb.keep fun x hx => hk2.2.2.2.2 x hx.2 (fun e => by have e2 := Option.some.inj e; rcases hx.1 with h | h; have := hS3 x h; omega; omega)).weak fun x hx => ⟨hx.1.imp_right fun h => by omega, by simpa using hx.2⟩, hk2.below hq hq.size (fun x hx => by have e := Option.some.inj hx; omega), c0, c1⟩
set_option maxRecDepth 100000 in
set_option maxHeartbeats 16000000 in
theorem search_nil {n : Nat} (hn : 0 < n) (h8 : n ≤ 8) : SearchP n [] := fun L t m b S1 S2 S3 ev tv bv w hE hH hB hev htv hbv hS3 => by
  have htl := hH.len
  have hrot := hH.rot
  subst htl
  obtain ⟨ea, ec, rfl⟩ := hev.slice
  obtain ⟨ta, tc, rfl⟩ := htv.slice
  obtain ⟨ba, bc, rfl⟩ := hbv.slice
  rw [rowsP_len] at *
  rw [List.length_map] at *
  rw [List.length_map] at *
  have hbox := (own2_new w w.heap.size 76 (.int .i64 m) (.slice ba b.length bc) (Nat.le_refl _)).alloc (.cells #[.int .i64 0, .slice none 0 0] 76)
  have hres := own2_new (w.alloc (.cells #[.int .i64 m, .slice ba b.length bc] 76)) w.heap.size 76 (.int .i64 0) (.slice none 0 0) (by simp)
  rw [show (w.alloc (.cells #[.int .i64 m, .slice ba b.length bc] 76)).heap.size = w.heap.size + 1 by simp] at hres
  have hq0 : Below w.heap.size w ((w.alloc (.cells #[.int .i64 m, .slice ba b.length bc] 76)).alloc (.cells #[.int .i64 0, .slice none 0 0] 76)) := ((Below.refl _ _).alloc (Nat.le_refl _) _).alloc (by simp) _
  have htw := l22Twice_any hrot hn (htv.below hq0 (Nat.le_refl _))
  have HFIN := Lib.hid (fun (W : World) (m m0 : Int) (ba : Option Addr) (bn bc : Nat) (z : Value) (b : List (List Nat)) (hq : Below w.heap.size w W) h1 h2 h3 => ways_fin (S3 := S3) (w := w) (W := W) (m := m) (m0 := m0) (ba := ba) (bn := bn) (bc := bc) (z := z) (b := b) hS3 hq h1 h2 h3)
  have hbl0 := (hbv.below hq0 (Nat.le_refl _)).weak (S' := fun x => (S3 x ∨ w.heap.size + 2 ≤ x) ∧ x < ((w.alloc (.cells #[.int .i64 m, .slice ba b.length bc] 76)).alloc (.cells #[.int .i64 0, .slice none 0 0] 76)).heap.size) (fun x hx => ⟨.inl hx, by have := hS3 x hx; simp; omega⟩)
  have hz2 : w.heap.size + 2 ≤ ((w.alloc (.cells #[.int .i64 m, .slice ba b.length bc] 76)).alloc (.cells #[.int .i64 0, .slice none 0 0] 76)).heap.size := by simp
  have HTV := Lib.hid (fun (W : World) (hb : Below w.heap.size w W) => htv.below hb (Nat.le_refl _))
  have H0 := Lib.hid (fun (h : twiceI t ≠ 0) => show (srchS [] t).foldl stepW (m, b) = (m, b) by rw [srchS, if_neg h]; rfl)
  have H1 := Lib.hid (fun (h : twiceI t = 0) => show (srchS [] t).foldl stepW (m, b) = (wrap64 (m + 1), bestStepR b (t.map rotL)) by rw [srchS, if_pos h]; rfl)
  have HROW := Lib.hid (fun k => rot_row hrot k)
  clear hev htv hbv hE hH
  go_enter Tryz.func86, Tryz.ntmps86
  go_wp2_with fail
  refine htw.mono ?_
  rintro e w1 ⟨rfl, hb1⟩
  have hq1 := hq0.trans (hb1.mono hq0.size)
  have hbox := hbox.below hb1 (Nat.le_refl _)
  have hres := hres.below hb1 (Nat.le_refl _)
  have hbl := (hbl0.below hb1 (Nat.le_refl _)).weak (S' := fun x => (S3 x ∨ w.heap.size + 2 ≤ x) ∧ x < w1.heap.size) (fun x hx => ⟨hx.1, Nat.lt_of_lt_of_le hx.2 hb1.size⟩)
  have hz3 : w.heap.size + 2 ≤ w1.heap.size := Nat.le_trans hz2 hb1.size
  clear htw hq0 hb1 hbl0 hz2
  by_cases h0 : twiceI t = 0
  case neg =>
    have hne : (twiceI t != 0) = true := by simpa using h0
    have HR := Lib.hid (H0.out h0)
    obtain ⟨k1, k2, k3, k4⟩ := HFIN.out w1 m 0 ba b.length bc _ b hq1 hbox hres hbl
    obtain ⟨c0, c1, -, -, -, -⟩ := own2_cell hbox
    obtain ⟨d0, d1, f0, f1, -, -⟩ := own2_cell hres
    generalize twiceI t = z at *
    clear h0 H1 H0 HFIN hbl HTV HROW hbox hres
    go_wp2
    refine bodyPost_ret (v := .agg #[.int .i64 m, .slice ba b.length bc]) (by simp [results, Tryz.results86, go_sem, k3, k4]) rfl ?_
    rw [HR.out]
    exact ⟨_, rfl, k1, k2⟩
  have hne : (twiceI t != 0) = false := by rw [h0]; rfl
  have HR := Lib.hid (H1.out h0)
  generalize twiceI t = z at *
  clear h0 H1 H0
  obtain ⟨tb, toff, htc, htce, HROWS⟩ : ∃ tb to : Nat, ∃ c, (Value.slice ta t.length tc = .slice (some ⟨tb, to, none⟩) t.length c) ∧ ∀ k (hk : k < t.length) (W : World), Below w.heap.size w W → ∃ fv, W.cell? ⟨tb, to + k, none⟩ = some fv ∧ SlI S2 W .i64 fv (natsI t[k]) := by
    have h := HTV.out
    obtain ⟨a, tb, to, cap, f, he, hl, ha, hc⟩ := h w (Below.refl _ _)
    rw [List.length_map] at he ha
    refine ⟨tb, to, cap, by rw [he, (ha hn).1], fun k hk W hb => ⟨f k, ?_, ?_⟩⟩
    · have h2 := (hc k (by simpa using hk)).1
      exact (hb.cell (p := ⟨tb, to + k, none⟩) (cell_lt h2)).trans h2
    · have h2 := (hc k (by simpa using hk)).2
      rw [List.getElem_map] at h2
      exact h2.below hb (Nat.le_refl _)
  simp only [Value.slice.injEq, true_and] at htce
  obtain ⟨rfl, rfl⟩ := htce
  have HRW := Lib.hid HROWS
  have ho0 : OwnR (w1.alloc (.cells #[] 36)) w1.heap.size (w1.alloc (.cells #[] 36)).heap.size 36 2 (.slice (some ⟨w1.heap.size, 0, none⟩) 0 0) [] := by
    have h := World.ownsRow_lit (base := w1.heap.size) (e := 36) (size := 1) w1 #[] 0 (Nat.le_refl _) (by unfold maxLen; omega) rfl
    exact ⟨[], rfl, by simpa [Own] using h, fun b hb => by have e : w1.heap.size = b := (by simpa [Value.ownBlock] using hb); simp; omega, ApartL.nil, fun i hi => by simp at hi⟩
  have hbw0 : Below w1.heap.size w1 (w1.alloc (.cells #[] 36)) := (Below.refl _ _).alloc (Nat.le_refl _) _
  have HTK := Lib.hid (fun k (hk : k < t.length) => show ((t.map rotL).take k).map natsI ++ [natsI (rotL t[k])] = ((t.map rotL).take (k + 1)).map natsI by
    rw [List.take_succ_eq_append_getElem (show k < (t.map rotL).length by simpa using hk)]; simp)
  have HLL := Lib.hid (show (t.map rotL).take t.length = t.map rotL by rw [List.take_of_length_le (by simp)])
  have HR16 := Lib.hid (fun k (hk : k < t.length) => show t[k].length ≤ 16 by have := HROW.out k; rw [show t.getD k [] = t[k] by simp [hk]] at this; exact this)
  clear HROWS HTV HROW
  go_wp2
  go_loopw [7, 8] (fun ov iv wr => ∃ k : Nat, k ≤ t.length ∧ iv = .int .i64 (k : Int) ∧ OwnR wr w1.heap.size wr.heap.size 36 2 ov (((t.map rotL).take k).map natsI) ∧ Below w1.heap.size w1 wr) (fun _ iv _ => t.length - (RowKit.intOf iv).toNat)
  case atStart => exact ⟨0, Nat.zero_le _, rfl, by simpa using ho0, hbw0⟩
  case round =>
    clear ho0 hbw0
    obtain ⟨k, hk, rfl, ho, hbw⟩ := hrel
    have hqr := hq1.trans (hbw.mono hq1.size)
    by_cases hkt : k < t.length
    case neg =>
      obtain rfl : k = t.length := by omega
      rw [HLL.out] at ho
      have hlR : ((t.map rotL).map natsI).length = t.length := by simp
      have hrows := ho.rowO
      obtain ⟨oa, oc, rfl⟩ := ho.isSlice
      rw [hlR] at *
      have hboxr := hbox.below hbw (Nat.le_refl _)
      have hresr := hres.below hbw (Nat.le_refl _)
      have hblr := (hbl.below hbw (Nat.le_refl _)).weak (S' := fun x => (S3 x ∨ w.heap.size + 2 ≤ x) ∧ x < wr.heap.size) (fun x hx => ⟨hx.1, Nat.lt_of_lt_of_le hx.2 hbw.size⟩)
      obtain ⟨c0, c1, f0, f1, -, -⟩ := own2_cell hboxr
      obtain ⟨X, hX⟩ : ∃ X, X = wrap64 (m + 1) := ⟨_, rfl⟩
      have hXw : IntKind.i64.wrap (m + 1) = X := by rw [hX, IntKind.wrap_i64, wrap64]
      have hk5 := KeptBut.set wr w.heap.size 0 (.int .i64 X)
      have hbox5 : Own (wr.setCell ⟨w.heap.size, 0, none⟩ (.int .i64 X)) w.heap.size 76 2 (.slice (some ⟨w.heap.size, 0, none⟩) 1 1) 1 [.int .i64 X, .slice ba b.length bc] := by
        have := Own.stored hboxr 0 (.int .i64 X); simpa using this
      have hres5 := hresr.kept hk5 (fun x hx e => by have e1 : w.heap.size + 1 = x := Option.some.inj hx; have e2 : w.heap.size = x := Option.some.inj e; omega)
      have hq5 := hk5.below hqr hqr.size (fun x hx => by have e := Option.some.inj hx; omega)
      have hw1r := hbw.size
      have hrows5 := hrows.keep (w' := wr.setCell ⟨w.heap.size, 0, none⟩ (.int .i64 X)) (fun x hx => hk5.2.2.2.2 x hx.2 (fun e => by have e2 := Option.some.inj e; have h1 := hx.1; omega))
      have hbl5 := hblr.keep (w' := wr.setCell ⟨w.heap.size, 0, none⟩ (.int .i64 X)) (fun x hx => hk5.2.2.2.2 x hx.2 (fun e => by have e2 := Option.some.inj e; rcases hx.1 with h | h; have := hS3 x h; omega; omega))
      have hsz5 : (wr.setCell ⟨w.heap.size, 0, none⟩ (.int .i64 X)).heap.size = wr.heap.size := by simp
      obtain ⟨c50, c51, f50, f51, -, -⟩ := own2_cell hbox5
      rw [← hsz5] at hrows5 hbl5
      generalize hW5 : wr.setCell ⟨w.heap.size, 0, none⟩ (.int .i64 X) = W5 at *
      have H7 := Lib.hid (fun (W : World) (hd : Drawn W5 W) => show ∃ W7, W7 = W.setCell ⟨w.heap.size, 1, none⟩ (.slice oa t.length oc) ∧ Below w.heap.size w W7 ∧ Own W7 w.heap.size 76 2 (.slice (some ⟨w.heap.size, 0, none⟩) 1 1) 1 [.int .i64 X, .slice oa t.length oc] ∧ Own W7 w.heap.size 76 2 (.slice (some ⟨w.heap.size + 1, 0, none⟩) 1 1) 1 [.int .i64 0, .slice none 0 0] ∧
          RowO (fun x => (S3 x ∨ w.heap.size + 2 ≤ x) ∧ x < W7.heap.size) W7 (.slice oa t.length oc) ((t.map rotL).map natsI) from by
        have hb := hbox5.drawn hd
        have hr := hres5.drawn hd
        have hk := KeptBut.set W w.heap.size 1 (.slice oa t.length oc)
        have hs : W.heap.size = W5.heap.size := by rw [hd.heap]
        refine ⟨_, rfl, hk.below (hq5.trans (hd.below _)) (by rw [hs]; exact hq5.size) (fun x hx => by have e := Option.some.inj hx; omega), ?_, hr.kept hk (fun x hx e => by have e1 : w.heap.size + 1 = x := Option.some.inj hx; have e2 : w.heap.size = x := Option.some.inj e; omega), ?_⟩
        · have := Own.stored hb 1 (.slice oa t.length oc); simpa using this
        · refine ((hrows5.drawn hd).keep fun x hx => hk.2.2.2.2 x (by rw [hs]; exact hx.2) (fun e => by have e2 := Option.some.inj e; have h1 := hx.1; omega)).weak fun x hx => ⟨.inr (by have h1 := hx.1; omega), by simp; rw [hs]; exact hx.2⟩)
      have HBL := Lib.hid (show (b = [] ∨ b ≠ [] ∧ b.length = t.length) from by
        by_cases h : b = []
        · exact .inl h
        · exact .inr ⟨h, hB.resolve_left h⟩)
      clear hbox hres hbl hboxr hresr hblr hrows ho hq1 hbw hqr hk5 hw1r hlR hB hsz5
      rcases HBL.out with hb0 | ⟨hb0, hbl0⟩
      · have HRR := Lib.hid (show (srchS [] t).foldl stepW (m, b) = (X, t.map rotL) by rw [HR.out, hX]; simp [bestStepR, hb0])
        obtain ⟨W7, hW7, hq7, hb7, hr7, hl7⟩ := H7.out W5 (Drawn.refl _)
        obtain ⟨k1, k2, k3, k4⟩ := HFIN.out W7 X 0 oa t.length oc _ (t.map rotL) hq7 hb7 hr7 hl7
        obtain ⟨c70, c71, -, -, -, -⟩ := own2_cell hb7
        obtain ⟨d0, d1, g0, g1, -, -⟩ := own2_cell hr7
        have hbn : b.length = 0 := by rw [hb0]; rfl
        rw [hbn] at c1 c51
        subst hW7
        clear HR HFIN H7 HBL hb0 hbn hX hb7 hr7 hl7 hrows5 hbl5 hbox5 hres5 hq5
        subst hW5
        go_wp2
        refine bodyPost_ret (v := .agg #[.int .i64 X, .slice oa t.length oc]) (by simp [results, Tryz.results86, go_sem, k3, k4]) rfl ?_
        rw [HRR.out]
        exact ⟨_, rfl, k1, k2⟩
      · have hlp : 0 < b.length := by omega
        have hbn0 : ((b.length : Int) == 0) = false := by rw [beq_eq_false_iff_ne]; omega
        have hbn1 : (b.length == 0) = false := by rw [beq_eq_false_iff_ne]; omega
        have hle := l22Less_any hrows5.rows hbl5.rows (by rw [List.length_map]; exact hbl0)
        cases hlr : lessR (t.map rotL) b with
        | true =>
          rw [hlr] at hle
          have HRR := Lib.hid (show (srchS [] t).foldl stepW (m, b) = (X, t.map rotL) by rw [HR.out, hX]; simp [bestStepR, hlr])
          clear hlr HR HBL hb0 hbl0 hX hrows5 hbl5 hbox5 hres5 hq5 hlp
          have h9 : W5.cell? ⟨w.heap.size, 1, none⟩ = some (.slice ba b.length bc) := c51
          subst hW5
          go_wp2_with fail
          refine hle.mono ?_
          rintro e W6 ⟨rfl, hd6⟩
          obtain ⟨W7, hW7, hq7, hb7, hr7, hl7⟩ := H7.out W6 hd6
          obtain ⟨k1, k2, k3, k4⟩ := HFIN.out W7 X 0 oa t.length oc _ (t.map rotL) hq7 hb7 hr7 hl7
          obtain ⟨c70, c71, -, -, -, -⟩ := own2_cell hb7
          obtain ⟨d0, d1, g0, g1, -, -⟩ := own2_cell hr7
          have c61 := (hd6.cell _).trans c51
          have f61 : W6.frozen? ⟨w.heap.size, 1, none⟩ = false := by rw [← f51]; simp [World.frozen?, hd6.heap]
          subst hW7
          clear HFIN H7 hb7 hr7 hl7 hle
          go_wp2
          refine bodyPost_ret (v := .agg #[.int .i64 X, .slice oa t.length oc]) (by simp [results, Tryz.results86, go_sem, k3, k4]) rfl ?_
          rw [HRR.out]
          exact ⟨_, rfl, k1, k2⟩
        | false =>
          rw [hlr] at hle
          have HRR := Lib.hid (show (srchS [] t).foldl stepW (m, b) = (X, b) by rw [HR.out, hX]; simp [bestStepR, hlr, hb0])
          clear hlr HR HBL hb0 hbl0 hX hlp
          have HD := Lib.hid (fun (W : World) (hd : Drawn W5 W) => show _ from HFIN.out W X 0 ba b.length bc _ b (hq5.trans (hd.below _)) (hbox5.drawn hd) (hres5.drawn hd) ((hbl5.drawn hd).weak fun x hx => ⟨hx.1, by rw [hd.heap]; exact hx.2⟩))
          have HBX := Lib.hid (fun (W : World) (hd : Drawn W5 W) => own2_cell (hbox5.drawn hd))
          have HRE := Lib.hid (fun (W : World) (hd : Drawn W5 W) => own2_cell (hres5.drawn hd))
          clear hrows5 hbl5 hbox5 hres5 hq5 HFIN H7
          subst hW5
          go_wp2_with fail
          refine hle.mono ?_
          rintro e W6 ⟨rfl, hd6⟩
          obtain ⟨k1, k2, k3, k4⟩ := HD.out W6 hd6
          obtain ⟨c70, c71, -, -, -, -⟩ := HBX.out W6 hd6
          obtain ⟨d0, d1, g0, g1, -, -⟩ := HRE.out W6 hd6
          clear HD HBX HRE hle
          go_wp2
          refine bodyPost_ret (v := .agg #[.int .i64 X, .slice ba b.length bc]) (by simp [results, Tryz.results86, go_sem, k3, k4]) rfl ?_
          rw [HRR.out]
          exact ⟨_, rfl, k1, k2⟩
    obtain ⟨fv, d1, r1⟩ := HRW.out k hkt wr hqr
    have hfi := l22FirstE_any r1 (HR16.out k hkt)
    have HTK2 := Lib.hid (HTK.out k hkt)
    have hlk : (((t.map rotL).take k).map natsI).length = k := by simp; omega
    obtain ⟨ra, rc, rfl⟩ := r1.slice
    obtain ⟨oa, oc, rfl⟩ := ho.isSlice
    rw [hlk]
    have hkI : (k : Int) < (t.length : Int) := by omega
    have hwB := hbw.size
    have hXl : (rotL t[k]).length ≤ 16 := by rw [(rotL_perm _).length_eq]; exact HR16.out k hkt
    obtain ⟨wi, rfl⟩ : ∃ x : World, x = wr := ⟨_, rfl⟩
    generalize hG : ((t.map rotL).take k).map natsI = G at *
    generalize hX : rotL t[k] = X at *
    have HLK := Lib.hid hlk
    clear r1 hlk hG hX
    go_wp2_with fail
    refine hfi.mono ?_
    rintro e w3 ⟨u3, rfl, hu3, hb3⟩
    have ho3 := ho.below hb3 (Nat.le_refl _)
    have hB3 := hb3.size
    obtain ⟨vs, h1, h2, h2C, hap, h3⟩ := ho3
    have hlt0 : ∀ b, (Value.slice oa G.length oc).ownBlock = some b → b < wi.heap.size := fun b hb => by obtain ⟨vs', -, g2, -⟩ := ho; exact (g2.lt b hb).2
    have hbw3 := hbw.trans (hb3.mono hwB)
    obtain ⟨a3, c3, rfl⟩ := hu3.isSlice
    rw [HLK.out] at h1 h2 hlt0
    have hwB3 := hbw3.size
    clear hfi ho
    go_wp2_with (at_builtin; refine wpList_append1 elRows rfl _ _ rfl h2 rfl rfl rfl (by omega) hwB3 ?_; intro v4 w4 ho4 hk4 hm4)
    have hOB : (Value.slice oa G.length oc).ownBlock = (Value.slice oa k oc).ownBlock := by rw [HLK.out]
    have hnew : OwnR w4 w1.heap.size w4.heap.size 36 2 v4 (G ++ [natsI X]) :=
      ownR_snoc (w := w3) (C := wi.heap.size) (u := .slice oa G.length oc) (v := .slice a3 X.length c3) (by rw [HLK.out]; exact h1) hB3 hap h3 h2C (by rw [HLK.out]; exact ho4) (by rw [natsI_len]; exact hu3.weak hwB) (fun b hb => (hu3.lt b hb).1) (by rw [hOB]; exact hk4) (by
        rw [hOB]
        rcases hm4 with h | h
        · exact .inl h
        · exact .inr ⟨_, h, by simp⟩)
    have hbw4 := hk4.below hbw3 hwB3 (fun b hb => (h2.lt b hb).1)
    rw [HTK2.out] at hnew
    go_roundw
    case rel => exact ⟨k + 1, by omega, by go_num, hnew, hbw4⟩
    case measure => (simp [RowKit.intOf] <;> omega)
end Go.Proofs.YtdbanndcdbikmaaGreatDoor
