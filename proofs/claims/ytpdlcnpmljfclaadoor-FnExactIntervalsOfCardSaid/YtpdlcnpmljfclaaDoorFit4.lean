/- The reference's search for a pattern. -/
import Derived.Test.YtpdlcnpmljfclaaDoorFit2
import Derived.Test.YtpdlcnpmljfclaaDoorGok
namespace Go.Proofs.YtpdlcnpmljfclaaDoor
open Go.RowKit
theorem SlI.low {S : Nat → Prop} {w : World} {k : IntKind} {v : Value} {xs : List Int} (h : SlI S w k v xs) : SlI (fun b => b < w.heap.size) w k v xs := by
  obtain ⟨a, b, off, cap, rfl, hl, ha, hc⟩ := h
  exact ⟨a, b, off, cap, rfl, hl, fun h0 => ⟨(ha h0).1, hc.lt h0⟩, hc⟩
/-- A found path as an own slice of the call. -/
def FoundP (E : TypeId) (f : Option (List Nat)) (w : World) (e : Ending) (w' : World) : Prop := ∃ u, e = .returned u ∧ (f = none → u = .slice none 0 0) ∧ Own w' w.heap.size E 1 u (f.getD []).length ((natsI (f.getD [])).map (.int .i64)) ∧ Below w.heap.size w w'
def fitO (H Q : List Nat) : Option (List Nat) := (srchF H Q fitEf Q.length [] none).1
noncomputable def smallB (g : List (List Int)) : Bool := gokB g && decide (g.length ≤ 8)
theorem Own.made0 (w : World) (B : Nat) (E : TypeId) (z : Value) (n : Nat) (hB : B ≤ w.heap.size) (hn : n ≤ 1099511627) : Own (w.alloc (.cells (madeCells #[z] n) E)) B E 1 (.slice (some ⟨w.heap.size, 0, none⟩) 0 n) 0 [] := by
  have h := Own.reslice (Own.made w B E z n hB hn) (m := 0) (Nat.zero_le _)
  simpa using h
theorem make_cap (n : Nat) (hn : n ≤ 1048576) (w : World) : (Instr.makeSlice 38 (.int .i64 0) (.int .i64 (n : Int))).run Tryd.prog w = .ok (.slice (some ⟨w.heap.size, 0, none⟩) 0 n) (w.alloc (.cells (madeCells #[.int .i64 0] n) 2)) := by
  obtain ⟨i, hi, hzz⟩ := Option.map_eq_some_iff.1 elI64.hi
  simp only [Prod.mk.injEq] at hzz
  obtain ⟨hz, hs, hb⟩ := hzz
  have := run_make (P := Tryd.prog) (w := w) 38 2 i (.int .i64 0) elI64.ht hi hz .i64 .i64 0 n (by omega) (by omega) (by rw [hb]; omega) (by omega)
  simpa [hs, Value.cells] using this
set_option maxHeartbeats 1000000 in
theorem wide_any {S : Nat → Prop} {v : Value} {xs : List Int} {w : World} (hv : SlI S w .i64 v xs) (hn : xs.length ≤ 1048576) :
    Calls Tryd.prog 54 #[v] w fun e w' => ∃ u, e = .returned u ∧ Own w' w.heap.size 2 1 u xs.length (xs.map (.int .i64)) ∧ Below w.heap.size w w' := by
  obtain ⟨va, vc, rfl⟩ := hv.slice
  have hmk := make_cap xs.length hn
  go_enter Tryd.func54, Tryd.ntmps54
  go_wp2
  clear hmk
  go_loopw [11, 3] (fun i o wr => ∃ k : Nat, k ≤ xs.length ∧ i = .int .i64 k ∧ Own wr w.heap.size 2 1 o k ((xs.take k).map (.int .i64)) ∧ Below w.heap.size w wr) (fun i _ _ => xs.length - (intOf i).toNat)
  case atStart => exact ⟨0, Nat.zero_le _, rfl, by simpa using Own.made0 w w.heap.size 2 (.int .i64 0) xs.length (Nat.le_refl _) (by omega), (Below.refl _ _).alloc (Nat.le_refl _) _⟩
  case round =>
    obtain ⟨k, hk, rfl, hown, hq⟩ := hrel
    have hB := hq.size
    by_cases hlt : k < xs.length
    · obtain ⟨b, off, cap, he, hc⟩ := (hv.below hq (Nat.le_refl _)).at_
      have he := he (by omega)
      simp only [Value.slice.injEq, true_and] at he
      obtain ⟨rfl, rfl⟩ := he
      have hcell := hc k hlt
      clear hc
      have HT := Lib.hid (List.take_succ_eq_append_getElem hlt)
      go_wp2_with (at_builtin; refine wpList_append1 elI64 rfl _ _ rfl hown rfl rfl rfl (by omega) hB ?_; intro v' w1 hown1 hkept hmv)
      go_roundw
      case rel => exact ⟨k + 1, by omega, by go_num, by rw [HT.out, List.map_append]; exact hown1, hkept.below hq hB hown.ge⟩
      case measure => simp [intOf]; omega
    · obtain rfl : k = xs.length := by omega
      rw [List.take_length] at hown
      go_wp2
      go_ret
      exact ⟨_, rfl, hown, hq⟩
/-- Does a vertex fit behind a list: by the lists of neighbours. -/
def okGTo (g p : List (List Int)) (q : List Nat) (v k : Nat) : Bool := (List.range k).all fun j => decide ((q.length : Int) ∈ p.getD j []) == decide ((v : Int) ∈ g.getD (q.getD j 0) [])
theorem okGTo_succ (g p : List (List Int)) (q : List Nat) (v k : Nat) : okGTo g p q v (k + 1) = (okGTo g p q v k && (decide ((q.length : Int) ∈ p.getD k []) == decide ((v : Int) ∈ g.getD (q.getD k 0) []))) := by
  unfold okGTo; rw [List.range_succ, List.all_append]; simp
theorem netsL_get' {g : List (List Int)} {v : Nat} (hv : v < g.length) : (netsL g).getD v 0 = maskL g[v] := by simp [netsL, hv]
theorem all_congr' {l : List Nat} {f h : Nat → Bool} (H : ∀ x ∈ l, f x = h x) : l.all f = l.all h := by
  induction l with
  | nil => rfl
  | cons a l ih => rw [List.all_cons, List.all_cons, H a (by simp), ih (fun x hx => H x (by simp [hx]))]
theorem nets_bit {g : List (List Int)} (hg : GOk g) {u v : Nat} (hu : u < g.length) : ((netsL g).getD u 0).testBit v = decide ((v : Int) ∈ g.getD u []) := by
  rw [netsL_get' hu, testBit_maskL (fun x hx => (hg.ge hu x hx).1)]
  simp [hu]
theorem edge_symm {g : List (List Int)} (hg : GOk g) {u v : Nat} (hu : u < g.length) (hv : v < g.length) : ((v : Int) ∈ g.getD u []) ↔ ((u : Int) ∈ g.getD v []) := by
  have e1 : g.getD u [] = g[u] := by simp [hu]
  have e2 : g.getD v [] = g[v] := by simp [hv]
  constructor
  · intro h; rw [e1] at h; have := hg.symm u hu _ h; simpa using this
  · intro h; rw [e2] at h; have := hg.symm v hv _ h; simpa using this
theorem okG_eq {g p : List (List Int)} (hg : GOk g) (hp : GOk p) {q : List Nat} {v : Nat} (hq : ∀ a ∈ q, a < g.length) (hl : q.length < p.length) (hv : v < g.length) :
    (!decide (v ∈ q) && okGTo g p q v q.length) = okB (netsL g) (netsL p) q v := by
  unfold okB
  congr 1
  unfold okGTo fitTo
  apply all_congr'
  intro j hj
  have hj := List.mem_range.1 hj
  have hqj : q.getD j 0 < g.length := by
    have : q.getD j 0 = q[j] := by simp [hj]
    rw [this]; exact hq _ (List.getElem_mem hj)
  rw [nets_bit hg hv, nets_bit hp hl]
  have h1 : decide ((q.length : Int) ∈ p.getD j []) = decide ((j : Int) ∈ p.getD q.length []) := decide_eq_decide.2 (edge_symm hp (by omega) hl)
  have h2 : decide ((v : Int) ∈ g.getD (q.getD j 0) []) = decide (((q.getD j 0 : Nat) : Int) ∈ g.getD v []) := decide_eq_decide.2 (edge_symm hg hqj hv)
  rw [h1, h2, Bool.beq_comm]
theorem srch_fit (H Q : List Nat) : ∀ (d : Nat) (q : List Nat) (s : Option (List Nat)), ((srchF H Q fitEf d q s).2 = false ∧ (srchF H Q fitEf d q s).1 = s) ∨ ((srchF H Q fitEf d q s).2 = true ∧ ∃ r, (srchF H Q fitEf d q s).1 = some r ∧ r.length = q.length + d)
  | 0, q, s => .inr ⟨rfl, q, rfl, rfl⟩
  | d + 1, q, s => by
    rw [srchF]
    have : ∀ (l : List Nat), ((loopS (fun v s => if okB H Q q v = true then srchF H Q fitEf d (q ++ [v]) s else (s, false)) l s).2 = false ∧ (loopS (fun v s => if okB H Q q v = true then srchF H Q fitEf d (q ++ [v]) s else (s, false)) l s).1 = s) ∨
        ((loopS (fun v s => if okB H Q q v = true then srchF H Q fitEf d (q ++ [v]) s else (s, false)) l s).2 = true ∧ ∃ r, (loopS (fun v s => if okB H Q q v = true then srchF H Q fitEf d (q ++ [v]) s else (s, false)) l s).1 = some r ∧ r.length = q.length + (d + 1)) := by
      intro l
      induction l with
      | nil => exact .inl ⟨rfl, rfl⟩
      | cons v l ih =>
        rw [loopS]
        by_cases hok : okB H Q q v = true
        · simp only [hok, if_true]
          rcases srch_fit H Q d (q ++ [v]) s with ⟨h1, h2⟩ | ⟨h1, r, h2, h3⟩
          · simp only [h1, Bool.false_eq_true, if_false, h2]; exact ih
          · simp only [h1, if_true]
            exact .inr ⟨trivial, r, h2, by rw [h3]; simp; omega⟩
        · simp only [hok, if_false, Bool.false_eq_true]; exact ih
    exact this _
/-- What the search finds, as a list. -/
def embL (g p : List (List Int)) (d : Nat) (q : List Nat) : List Nat := ((srchF (netsL g) (netsL p) fitEf d q none).1).getD []
theorem l1Size_any {S : Nat → Prop} {v : Value} {g : List (List Int)} {w : World} (hv : SlR S w v g) : Calls Tryd.prog 78 #[.agg #[v]] w fun e w' => e = .returned (.int .i64 (g.length : Int)) ∧ Below w.heap.size w w' := by
  have hb : Below w.heap.size w (w.alloc (.cells #[v] 29)) := (Below.refl _ _).alloc (Nat.le_refl _) _
  have hlen := hv.len
  obtain ⟨va, vc, rfl⟩ := hv.slice
  go_enter Tryd.func78, Tryd.ntmps78
  go_wp2
  go_ret
  exact ⟨rfl, hb⟩
theorem l1Edge_any {S : Nat → Prop} {v : Value} {g : List (List Int)} {u : Nat} {x : Int} {w : World} (hv : SlR S w v g) (hu : u < g.length) :
    Calls Tryd.prog 142 #[.agg #[v], .int .i64 (u : Int), .int .i64 x] w fun e w' => e = .returned (.bool (decide (x ∈ g.getD u []))) ∧ Below w.heap.size w w' := by
  have hb : Below w.heap.size w (w.alloc (.cells #[v] 29)) := (Below.refl _ _).alloc (Nat.le_refl _) _
  have hE : g.getD u [] = g[u] := by simp [hu]
  obtain ⟨a, b, off, cap, f, rfl, hl, ha, hc⟩ := hv.below hb (Nat.le_refl _)
  obtain ⟨hcell, hrow⟩ := hc u hu
  obtain ⟨rfl, -⟩ := ha (by omega)
  have HE := Lib.hid hE; clear hE
  go_enter Tryd.func142, Tryd.ntmps142
  go_wp2_with (go_at_call 56; refine (l1Has_any _ _ _ _ hrow).mono ?_; rintro e w' ⟨rfl, rfl⟩)
  go_ret
  exact ⟨ret_bool (by rw [HE.out]), hb⟩
end Go.Proofs.YtpdlcnpmljfclaaDoor
