/- CoTreeOk of the reference and of the program. -/
import Derived.Test.YtfccpencgengaaaDoorLawPart
namespace Go.Proofs.YtfccpencgengaaaDoor
open Go.RowKit
def CoOk (t : List PNode) (i : Nat) : Prop := (nd t i).kind ≠ 4 ∧ ∀ k ∈ (nd t i).kids, (nd t k.toNat).kind ≠ (nd t i).kind
def CoGood (t : List PNode) : Prop := PGood t ∧ ∀ i, i < t.length → CoOk t i
open Classical in
noncomputable def coB (t : List PNode) : Bool := decide (CoGood t)
theorem coB_true {t : List PNode} (h : CoGood t) : coB t = true := by simp [coB, h]
theorem coB_false {t : List PNode} (h : ¬ CoGood t) : coB t = false := by simp [coB, h]
theorem coB_iff {t : List PNode} : coB t = true ↔ CoGood t := by simp [coB]
theorem PGood.kid {t : List PNode} (h : PGood t) {i r : Nat} (hi : i < t.length) (hr : r < t[i].kids.length) : ∃ nx : Nat, t[i].kids[r] = nx ∧ nx < i := by
  have hd := sok_down (h.ok i hi).1
  have hnd := nd_get hi
  have hk : (nd t i).kind ≠ 1 := by
    intro h1
    rcases (h.ok i hi).1 with ⟨_, g, _⟩ | ⟨g, _⟩
    · rw [hnd] at g; rw [g] at hr; simp at hr
    · exact g h1
  have := (hd.2 hk).2 t[i].kids[r] (by rw [hnd]; exact List.getElem_mem _)
  exact ⟨t[i].kids[r].toNat, by omega, by omega⟩
/-- A node's cells, in any later world. -/
theorem SlP.node {S : Nat → Prop} {w : World} {va : Option Addr} {n vc : Nat} {t : List PNode} (hv : SlP S w (.slice va n vc) t) (h0 : 0 < t.length) : ∃ b off, va = some ⟨b, off, none⟩ ∧ n = t.length ∧ ∀ i (hi : i < t.length), ∃ ka kc, w.cell? ⟨b, off + i * 3, none⟩ = some (.int .i64 t[i].kind) ∧ w.cell? ⟨b, off + i * 3 + 1, none⟩ = some (.int .i64 t[i].vertex) ∧ w.cell? ⟨b, off + i * 3 + 2, none⟩ = some (.slice ka t[i].kids.length kc) ∧ SlI S w .i64 (.slice ka t[i].kids.length kc) t[i].kids := by
  obtain ⟨b, off, cap, g, hve, hc⟩ := hv.at_
  have hve := hve h0
  simp only [Value.slice.injEq] at hve
  refine ⟨b, off, hve.1, hve.2.1, fun i hi => ?_⟩
  obtain ⟨h1, h2, h3, h4⟩ := hc i hi
  obtain ⟨ka, kc, hge⟩ := h4.slice
  rw [hge] at h3 h4
  exact ⟨ka, kc, h1, h2, h3, h4⟩
theorem take_all_kids {P : Int → Prop} {xs : List Int} {r : Nat} (hr : xs.length ≤ r) (h : ∀ k ∈ xs.take r, P k) : ∀ k ∈ xs, P k := by
  rw [List.take_of_length_le hr] at h; exact h
set_option maxHeartbeats 4000000 in
theorem specCoTreeOk_any {S : Nat → Prop} {v : Value} {t : List PNode} {w : World} (hv : SlP S w v t) (hn : t.length ≤ 1048576) :
    Calls Tryd.prog 82 #[v] w fun e w' => e = .returned (.bool (coB t)) ∧ Below w.heap.size w w' := by
  obtain ⟨va, vc, rfl⟩ := hv.slice
  have hc0 := specPartsOk_any hv hn
  by_cases hg : PGood t
  case neg =>
    rw [partsB_false hg] at hc0
    have HF := Lib.hid (coB_false (t := t) fun h => hg h.1)
    clear hg
    go_enter Tryd.func82, Tryd.ntmps82
    go_wp2_with (go_at_call 108; refine hc0.mono ?_; rintro e w1 ⟨rfl, hb1⟩)
    go_ret
    exact ⟨ret_bool HF.out.symm, hb1⟩
  rw [partsB_true hg] at hc0
  obtain ⟨b, off, rfl, -, -⟩ := hv.node hg.pos
  have HG := Lib.hid hg; clear hg
  go_enter Tryd.func82, Tryd.ntmps82
  go_wp2_with (go_at_call 108; refine hc0.mono ?_; rintro e w1 ⟨rfl, hb1⟩)
  clear hc0
  go_loopw [3] (fun i wr => ∃ (k : Nat), k ≤ t.length ∧ i = .int .i64 k ∧ (∀ j, j < k → CoOk t j) ∧ Below w.heap.size w wr) (fun i _ => t.length - (intOf i).toNat)
  case atStart => exact ⟨0, Nat.zero_le _, rfl, fun j h => by omega, hb1⟩
  case round =>
    clear hb1
    obtain ⟨k, hk, rfl, hok, hq⟩ := hrel
    have HOK := Lib.hid hok; clear hok
    by_cases hlt : k < t.length
    case neg =>
      have HT := Lib.hid (coB_true (t := t) ⟨HG.out, fun i hi => HOK.out i (by omega)⟩)
      go_wp2
      go_ret
      exact ⟨ret_bool HT.out.symm, hq⟩
    have hnd := nd_get hlt
    have HND := Lib.hid hnd; clear hnd
    go_wp2
    go_loopw [4] (fun j ws => ∃ (r : Nat), r ≤ t[k].kids.length ∧ j = .int .i64 r ∧ (∀ x ∈ t[k].kids.take r, (nd t x.toNat).kind ≠ t[k].kind) ∧ Below w.heap.size w ws) (fun j _ => t[k].kids.length - (intOf j).toNat)
    case atStart => exact ⟨0, Nat.zero_le _, rfl, fun x h => by simp at h, hq⟩
    case round =>
      clear hq
      obtain ⟨r, hr, rfl, hkk, hq⟩ := hrel
      have hv2 := hv.below hq (Nat.le_refl _)
      have HKK := Lib.hid hkk; clear hkk
      obtain ⟨b2, off2, hva, -, hcs⟩ := hv2.node (by omega)
      simp only [Option.some.injEq, Addr.mk.injEq, and_true] at hva
      obtain ⟨rfl, rfl⟩ := hva
      obtain ⟨ka, kc, c1, c2, c3, hkr⟩ := hcs k hlt
      have hkl := hkr.len
      by_cases hlt2 : r < t[k].kids.length
      · obtain ⟨kb, ko, kcap, hke, hkc⟩ := hkr.at_
        have hke := hke (by omega)
        simp only [Value.slice.injEq, true_and] at hke
        obtain ⟨rfl, rfl⟩ := hke
        have hcell := hkc r hlt2
        obtain ⟨nx, hnx, hnk⟩ := HG.out.kid hlt hlt2
        obtain ⟨ka1, kc1, d1, d2, d3, hkr1⟩ := hcs nx (by omega)
        have hnn := nd_get (t := t) (i := nx) (by omega)
        rw [hnx] at hcell
        have HNX := Lib.hid hnx; have HNN := Lib.hid hnn
        clear hkc hcs hnx hnn
        by_cases he : t[nx].kind = t[k].kind
        · have heb : (t[nx].kind == t[k].kind) = true := by simpa using he
          have HF := Lib.hid (coB_false (t := t) fun h => (h.2 k hlt).2 t[k].kids[r] (by rw [HND.out]; exact List.getElem_mem _) (by rw [HNX.out, Int.toNat_natCast, HNN.out, HND.out]; exact he))
          clear he
          go_wp2
          go_quiet (fail)
          go_wp2
          go_ret
          exact ⟨ret_bool HF.out.symm, hq.drewN' _⟩
        · have heb : (t[nx].kind == t[k].kind) = false := by simpa using he
          have HS := Lib.hid (take_step (P := fun x => (nd t x.toNat).kind ≠ t[k].kind) hlt2 HKK.out (by rw [HNX.out, Int.toNat_natCast, HNN.out]; exact he))
          clear he
          go_wp2
          go_quiet (fail)
          go_wp2
          go_roundw
          case rel => exact ⟨r + 1, by omega, by go_num, HS.out, hq.drewN' _⟩
          case measure => simp [intOf]; omega
      · have hall := take_all_kids (P := fun x => (nd t x.toNat).kind ≠ t[k].kind) (by omega) HKK.out
        have HA := Lib.hid hall
        clear hall hcs
        by_cases h4 : t[k].kind = 4
        · have h4b : (t[k].kind == 4) = true := by simpa using h4
          have HF := Lib.hid (coB_false (t := t) fun h => (h.2 k hlt).1 (by rw [HND.out]; exact h4))
          clear h4
          go_wp2
          go_ret
          exact ⟨ret_bool HF.out.symm, hq⟩
        · have h4b : (t[k].kind == 4) = false := by simpa using h4
          have HS := Lib.hid (show CoOk t k from ⟨by rw [HND.out]; exact h4, by rw [HND.out]; exact HA.out⟩)
          clear h4
          go_wp2
          go_roundw
          case rel =>
            refine ⟨k + 1, by omega, by go_num, fun j hj => ?_, hq⟩
            by_cases e : j = k
            · subst e; exact HS.out
            · exact HOK.out j (by omega)
          case measure => simp [intOf]; omega
set_option maxHeartbeats 1000000 in
theorem coClo_any {S : Nat → Prop} {b1 b2 nx : Nat} {kind : Int} {v : Value} {t : List PNode} {w : World} (hv : SlP S w v t) (h1 : w.cell? ⟨b1, 0, none⟩ = some v) (h2 : w.cell? ⟨b2, 0, none⟩ = some (.int .i64 kind)) (hnx : nx < t.length) :
    Calls Tryd.prog 111 #[.int .i64 (nx : Int), .pointer (some ⟨b1, 0, none⟩), .pointer (some ⟨b2, 0, none⟩)] w fun e w' => e = .returned (.bool (decide ((nd t nx).kind = kind))) ∧ Drawn w w' := by
  obtain ⟨va, vc, rfl⟩ := hv.slice
  obtain ⟨b, off, rfl, -, hcs⟩ := hv.node (by omega)
  obtain ⟨ka, kc, c1, c2, c3, hkr⟩ := hcs nx hnx
  have hnd := nd_get hnx
  have he : (t[nx].kind == kind) = decide ((nd t nx).kind = kind) := by rw [hnd]; by_cases h : t[nx].kind = kind <;> simp [h]
  have HE := Lib.hid he
  clear hcs he hnd
  go_enter Tryd.func111, Tryd.ntmps111
  go_wp2
  go_quiet (fail)
  go_wp2
  go_ret
  exact ⟨ret_bool HE.out, ⟨_, rfl⟩⟩
def IdxPost (b : Bool) (w : World) (e : Ending) (w' : World) : Prop := ∃ r : Int, e = .returned (.int .i64 r) ∧ (b = true → 0 ≤ r) ∧ (b = false → r < 0) ∧ Drawn w w'
/-- Has one of the numbers a node of this kind? -/
def anyKind (t : List PNode) (kids : List Int) (kind : Int) : Bool := kids.any fun k => decide ((nd t k.toNat).kind = kind)
set_option maxHeartbeats 1000000 in
theorem coIndex_any {S S' : Nat → Prop} {b1 b2 : Nat} {kind : Int} {v u : Value} {kids : List Int} {t : List PNode} {w : World} (hv : SlP S w v t) (hu : SlI S' w .i64 u kids) (h1 : w.cell? ⟨b1, 0, none⟩ = some v) (h2 : w.cell? ⟨b2, 0, none⟩ = some (.int .i64 kind)) (hk : ∀ r (h : r < kids.length), ∃ nx : Nat, kids[r] = nx ∧ nx < t.length) :
    Calls Tryd.prog 120 #[u, .func (Fn.func 111) #[] #[.pointer (some ⟨b1, 0, none⟩), .pointer (some ⟨b2, 0, none⟩)]] w (IdxPost (anyKind t kids kind) w) := by
  obtain ⟨ub, uo, ucap, hue, huc⟩ := hu.at_
  have hul := hu.len
  obtain ⟨ua, uc, rfl⟩ := hu.slice
  have HK := Lib.hid hk; clear hk
  go_enter Tryd.func120, Tryd.ntmps120
  go_wp2
  go_loopw [8] (fun i wr => ∃ k : Nat, k ≤ kids.length ∧ i = .int .i64 k ∧ (∀ x ∈ kids.take k, ¬ (nd t x.toNat).kind = kind) ∧ Drawn w wr) (fun i _ => kids.length - (intOf i).toNat)
  case atStart => exact ⟨0, Nat.zero_le _, rfl, fun x h => by simp at h, Drawn.refl _⟩
  case round =>
    obtain ⟨k, hk, rfl, hno, hq⟩ := hrel
    have HN := Lib.hid hno; clear hno
    by_cases hlt : k < kids.length
    · have hue := hue (by omega)
      simp only [Value.slice.injEq, true_and] at hue
      obtain ⟨rfl, rfl⟩ := hue
      have hcell := (hq.cell _).trans (huc k hlt)
      obtain ⟨nx, hnx, hnt⟩ := HK.out k hlt
      rw [hnx] at hcell
      have hcl := coClo_any (hv.drawn hq) ((hq.cell _).trans h1) ((hq.cell _).trans h2) hnt
      have HX := Lib.hid hnx; clear hnx huc
      by_cases he : (nd t nx).kind = kind
      · have HA := Lib.hid (show anyKind t kids kind = true from List.any_eq_true.2 ⟨kids[k], List.getElem_mem _, by rw [HX.out, Int.toNat_natCast]; simpa using he⟩)
        rw [decide_eq_true he] at hcl
        clear he
        go_wp2_with (go_at_call 111; refine hcl.mono ?_; rintro e w' ⟨rfl, hd⟩)
        go_ret
        exact ⟨(k : Int), rfl, fun _ => by omega, (fun h => by rw [HA.out] at h; cases h), hq.trans hd⟩
      · have HA := Lib.hid (take_step (P := fun x => ¬ (nd t x.toNat).kind = kind) hlt HN.out (by rw [HX.out, Int.toNat_natCast]; exact he))
        rw [decide_eq_false he] at hcl
        clear he
        go_wp2_with (go_at_call 111; refine hcl.mono ?_; rintro e w' ⟨rfl, hd⟩)
        go_roundw
        case rel => exact ⟨k + 1, by omega, by go_num, HA.out, hq.trans hd⟩
        case measure => simp [intOf]; omega
    · have HA := Lib.hid (show anyKind t kids kind = false from List.any_eq_false.2 fun x hx => by
        have := take_all_kids (P := fun x => ¬ (nd t x.toNat).kind = kind) (by omega) HN.out x hx
        simpa using this)
      go_wp2
      go_ret
      exact ⟨-1, rfl, (fun h => by rw [HA.out] at h; cases h), fun _ => by omega, hq⟩
theorem coContains_any {S S' : Nat → Prop} {b1 b2 : Nat} {kind : Int} {v u : Value} {kids : List Int} {t : List PNode} {w : World} (hv : SlP S w v t) (hu : SlI S' w .i64 u kids) (h1 : w.cell? ⟨b1, 0, none⟩ = some v) (h2 : w.cell? ⟨b2, 0, none⟩ = some (.int .i64 kind)) (hk : ∀ r (h : r < kids.length), ∃ nx : Nat, kids[r] = nx ∧ nx < t.length) :
    Calls Tryd.prog 110 #[u, .func (Fn.func 111) #[] #[.pointer (some ⟨b1, 0, none⟩), .pointer (some ⟨b2, 0, none⟩)]] w fun e w' => e = .returned (.bool (anyKind t kids kind)) ∧ Drawn w w' := by
  have hcl := coIndex_any hv hu h1 h2 hk
  go_enter Tryd.func110, Tryd.ntmps110
  go_wp2_with fail
  refine hcl.mono ?_
  rintro e w1 ⟨r, rfl, hr1, hr2, hd⟩
  by_cases hb : anyKind t kids kind = true
  · have h0 := hr1 hb
    have h0b : decide ((0 : Int) ≤ r) = true := decide_eq_true h0
    have HB := Lib.hid hb; clear hb hr1 hr2
    go_wp2
    go_ret
    exact ⟨ret_bool HB.out.symm, hd⟩
  · have hb' : anyKind t kids kind = false := by simpa using hb
    have h0 := hr2 hb'
    have h0b : decide ((0 : Int) ≤ r) = false := decide_eq_false (by omega)
    have HB := Lib.hid hb'; clear hb hb' hr1 hr2
    go_wp2
    go_ret
    exact ⟨ret_bool HB.out.symm, hd⟩
set_option maxHeartbeats 4000000 in
theorem implCoTreeOk_any {S : Nat → Prop} {v : Value} {t : List PNode} {w : World} (ht : Tab w) (hv : SlP S w v t) (hn : t.length ≤ 1048576) :
    Calls Tryd.prog 85 #[v] w fun e w' => e = .returned (.bool (coB t)) ∧ Below w.heap.size w w' := by
  obtain ⟨va, vc, rfl⟩ := hv.slice
  have hq0 : Below w.heap.size w (w.alloc (.cells #[.slice va t.length vc] 54)) := (Below.refl _ _).alloc (Nat.le_refl _) _
  have hc0 := implPartsOk_any (ht.below hq0 (Nat.le_refl _)) (hv.below hq0 (Nat.le_refl _)) hn
  by_cases hg : PGood t
  case neg =>
    rw [partsB_false hg] at hc0
    have HF := Lib.hid (coB_false (t := t) fun h => hg h.1)
    clear hg
    go_enter Tryd.func85, Tryd.ntmps85
    go_wp2_with (go_at_call 109; refine hc0.mono ?_; rintro e w1 ⟨rfl, hb1⟩)
    go_ret
    exact ⟨ret_bool HF.out.symm, hq0.trans (hb1.mono hq0.size)⟩
  rw [partsB_true hg] at hc0
  obtain ⟨b, off, rfl, -, -⟩ := hv.node hg.pos
  have HG := Lib.hid hg; clear hg
  go_enter Tryd.func85, Tryd.ntmps85
  go_wp2_with (go_at_call 109; refine hc0.mono ?_; rintro e w1 ⟨rfl, hb1⟩; have d1 : w1.cell? ⟨w.heap.size, 0, none⟩ = some (.slice (some ⟨b, off, none⟩) t.length vc) := (hb1.cell (p := ⟨w.heap.size, 0, none⟩) (by simp)).trans (by simp [go_sem]))
  clear hc0
  go_loopw [10] (fun i wr => ∃ (k : Nat), k ≤ t.length ∧ i = .int .i64 k ∧ (∀ j, j < k → CoOk t j) ∧ Below w1.heap.size w1 wr) (fun i _ => t.length - (intOf i).toNat)
  case atStart => exact ⟨0, Nat.zero_le _, rfl, fun j h => by omega, Below.refl _ _⟩
  case round =>
    obtain ⟨k, hk, rfl, hok, hqr⟩ := hrel
    have hq1 := hq0.trans (hb1.mono hq0.size)
    have hq := hq1.trans (hqr.mono hq1.size)
    have HOK := Lib.hid hok; clear hok
    by_cases hlt : k < t.length
    case neg =>
      have HT := Lib.hid (coB_true (t := t) ⟨HG.out, fun i hi => HOK.out i (by omega)⟩)
      go_wp2
      go_ret
      exact ⟨ret_bool HT.out.symm, hq⟩
    have hnd := nd_get hlt
    have HND := Lib.hid hnd; clear hnd
    have hv2 := hv.below hq (Nat.le_refl _)
    obtain ⟨b2, off2, hva, -, hcs⟩ := hv2.node (by omega)
    simp only [Option.some.injEq, Addr.mk.injEq, and_true] at hva
    obtain ⟨rfl, rfl⟩ := hva
    obtain ⟨ka, kc, c1, c2, c3, hkr⟩ := hcs k hlt
    have hbox : Below wr.heap.size wr (wr.alloc (.cells #[.int .i64 t[k].kind, .int .i64 t[k].vertex, .slice ka t[k].kids.length kc] 106)) := (Below.refl _ _).alloc (Nat.le_refl _) _
    have hqb := hq.trans (hbox.mono hq.size)
    have dr := (hqr.cell (cell_lt d1)).trans d1
    have hcl := coContains_any (b1 := w.heap.size) (b2 := wr.heap.size) (kind := t[k].kind) (w := wr.alloc (.cells #[.int .i64 t[k].kind, .int .i64 t[k].vertex, .slice ka t[k].kids.length kc] 106)) (hv2.below hbox (Nat.le_refl _)) (hkr.below hbox (Nat.le_refl _)) ((hbox.cell (cell_lt dr)).trans dr) (by simp [go_sem]) (fun r hr => by
      obtain ⟨nx, h1, h2⟩ := HG.out.kid hlt hr; exact ⟨nx, h1, by omega⟩)
    clear hcs
    by_cases h4 : t[k].kind = 4
    · have h4b : (t[k].kind == 4) = true := by simpa using h4
      have HF := Lib.hid (coB_false (t := t) fun h => (h.2 k hlt).1 (by rw [HND.out]; exact h4))
      clear h4 hcl
      go_wp2
      go_ret
      exact ⟨ret_bool HF.out.symm, hqb⟩
    have h4b : (t[k].kind == 4) = false := by simpa using h4
    by_cases ha : anyKind t t[k].kids t[k].kind = true
    · have HF := Lib.hid (coB_false (t := t) fun h => by
        obtain ⟨x, hx, hx2⟩ := List.any_eq_true.1 ha
        exact (h.2 k hlt).2 x (by rw [HND.out]; exact hx) (by rw [HND.out]; simpa using hx2))
      rw [ha] at hcl
      clear ha h4
      go_wp2_with (go_at_call 110; refine hcl.mono ?_; rintro e w2 ⟨rfl, hd⟩)
      go_ret
      exact ⟨ret_bool HF.out.symm, hqb.trans (hd.below _)⟩
    · have ha' : anyKind t t[k].kids t[k].kind = false := by simpa using ha
      have HS := Lib.hid (show CoOk t k from ⟨by rw [HND.out]; exact h4, by
        rw [HND.out]
        intro x hx he
        exact ha (List.any_eq_true.2 ⟨x, hx, by simpa using he⟩)⟩)
      rw [ha'] at hcl
      clear ha ha' h4
      go_wp2_with (go_at_call 110; refine hcl.mono ?_; rintro e w2 ⟨rfl, hd⟩)
      go_roundw
      case rel =>
        refine ⟨k + 1, by omega, by go_num, fun j hj => ?_, (hqr.trans (hbox.mono hqr.size)).trans (hd.below _)⟩
        by_cases e : j = k
        · subst e; exact HS.out
        · exact HOK.out j (by omega)
      case measure => simp [intOf]; omega
