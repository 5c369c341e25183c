/- The leaves of all nodes, by the program: the walk. -/
import Derived.Test.YtfccpencgengaaaDoorPartI
namespace Go.Proofs.YtfccpencgengaaaDoor
open Go.RowKit
theorem openF_len (t : List PNode) : ∀ i, (openF t i).length ≤ i
  | 0 => by simp [openF]
  | i + 1 => by
    have := openF_len t i
    rw [openF, List.length_append]
    split
    · simp; omega
    · simp; omega
/-- The masks of the first nodes. -/
def lvF (t : List PNode) (i : Nat) : List Nat := (List.range i).map (msk t)
theorem lvF_len (t : List PNode) (i : Nat) : (lvF t i).length = i := by simp [lvF]
theorem lvF_get {t : List PNode} {i k : Nat} (h : k < i) : (lvF t i).getD k 0 = msk t k := by simp [lvF, h]
theorem lvF_succ (t : List PNode) (i : Nat) : lvF t (i + 1) = lvF t i ++ [msk t i] := by simp [lvF, List.range_succ]
theorem natsI_snoc (l : List Nat) (a : Nat) : natsI (l ++ [a]) = natsI l ++ [(a : Int)] := by simp [natsI]
def NOk (t : List PNode) (i : Nat) : Prop := SOk t i ∧ MOk t i
theorem disj_append : ∀ (a b : List Nat) (s : Nat), Disj (a ++ b) s ↔ Disj a s ∧ Disj b (a.foldl (· ||| ·) s)
  | [], b, s => by simp [Disj]
  | m :: a, b, s => by rw [List.cons_append, Disj, Disj, disj_append a b, List.foldl_cons, and_assoc]
def kfold (L : List Nat) (r : Nat) : Nat := (L.take r).foldl (· ||| ·) 0
theorem kfold_succ {L : List Nat} {r : Nat} (h : r < L.length) : kfold L (r + 1) = kfold L r ||| L[r] := by
  unfold kfold; rw [List.take_succ_eq_append_getElem h, List.foldl_append]; rfl
theorem disj_step {L : List Nat} {r : Nat} (h : r < L.length) (hd : Disj (L.take r) 0) (h0 : kfold L r &&& L[r] = 0) : Disj (L.take (r + 1)) 0 := by
  rw [List.take_succ_eq_append_getElem h, disj_append]
  exact ⟨hd, h0, trivial⟩
theorem disj_bad {L : List Nat} {r : Nat} (h : r < L.length) (h0 : kfold L r &&& L[r] ≠ 0) : ¬ Disj L 0 := by
  intro hd
  have e : L = L.take r ++ L[r] :: L.drop (r + 1) := by rw [← List.drop_eq_getElem_cons h, List.take_append_drop]
  rw [e, disj_append] at hd
  exact h0 hd.2.1
theorem kfold_lt {L : List Nat} (hL : ∀ m ∈ L, m < 65536) (r : Nat) : kfold L r < 65536 := by
  refine bits16 fun j hj => ?_
  unfold kfold at hj
  have := fold_or_testBit (fun k : Nat => k) j (L.take r) 0
  rw [this] at hj
  simp only [Nat.zero_testBit, Bool.false_or, List.any_eq_true] at hj
  obtain ⟨k, hk, hk2⟩ := hj
  exact bits16' (hL k (List.mem_of_mem_take hk)) j hk2
theorem msk_kfold {t : List PNode} {i : Nat} (hi : i < t.length) (hd : ∀ j, j ≤ i → Down t j) (h : (nd t i).kind ≠ 1) : msk t i = kfold (kmsk t i) (kmsk t i).length := by
  rw [msk_node hi hd h, kfold, List.take_length, kmsk, List.foldl_map]
theorem gkid_ok {t : List PNode} {i : Nat} (hi : i < t.length) (h1 : (nd t i).kind ≠ 1) (h2 : 2 ≤ (nd t i).kind ∧ (nd t i).kind ≤ 4) (h3 : (nd t i).vertex = 0) : GKid (nd t i).kids (openF t i) (lvF t i) ↔ SOk t i ∧ AdjLe (kmsk t i) := by
  have e : ∀ ns : List Nat, (∀ a ∈ ns, a < i) → (natsZ ns).map (fun k => (lvF t i).getD k.toNat 0) = (natsZ ns).map fun k => msk t k.toNat := by
    intro ns hns
    simp only [natsZ, List.map_map]
    apply List.map_congr_left
    intro a ha
    simp only [Function.comp, Int.toNat_natCast]
    exact lvF_get (hns a ha)
  have hlt : ∀ a ∈ (openF t i).drop ((openF t i).length - (nd t i).kids.length), a < i := fun a ha => openF_lt t i a (List.mem_of_mem_drop ha)
  have e2 := e _ hlt
  constructor
  · rintro ⟨g1, g2, g3, g4⟩
    refine ⟨.inr ⟨h1, h2, h3, g1, g2, g3⟩, ?_⟩
    rw [← g3] at e2
    rw [kmsk, ← e2]; exact g4
  · rintro ⟨hs, ha⟩
    rcases hs with ⟨h, _⟩ | ⟨_, _, _, g1, g2, g3⟩
    · exact absurd h h1
    · refine ⟨g1, g2, g3, ?_⟩
      rw [← g3] at e2
      rw [e2]; exact ha
def LvPost (E : TypeId) (t : List PNode) (w : World) (e : Ending) (w' : World) : Prop := ∃ u, e = .returned (.tuple #[u, .bool (partsB t)]) ∧ (partsB t = true → Own w' w.heap.size E 1 u t.length ((natsI (lvF t t.length)).map (.int .u32))) ∧ Below w.heap.size w w'
theorem lvPost_no {E : TypeId} {t : List PNode} {w w' : World} {u : Value} {b : Bool} (hb : b = partsB t) (hf : partsB t = false) (hq : Below w.heap.size w w') : LvPost E t w (.returned (.tuple #[u, .bool b])) w' :=
  ⟨u, by rw [hb], (fun h => by rw [hf] at h; cases h), hq⟩
theorem elSets : Elem Tryd.prog 66 71 1 4 (.int .u32 0) := ⟨Tryd.underlying66, by kernel_rfl, rfl, by omega, by omega⟩
set_option maxHeartbeats 8000000 in
set_option maxRecDepth 100000 in
theorem subtreeLeaves_any {S : Nat → Prop} {v : Value} {t : List PNode} {w : World} (ht : Tab w) (hv : SlP S w v t) (hn : t.length ≤ 1048576) :
    Calls Tryd.prog 119 #[v] w (LvPost 71 t w) := by
  obtain ⟨va, vc, rfl⟩ := hv.slice
  have hcells : ∀ (w' : World) i (hi : i < t.length), Below w.heap.size w w' → ∃ b off ka kc, Value.slice va t.length vc = .slice (some ⟨b, off, none⟩) t.length vc ∧ w'.cell? ⟨b, off + i * 3, none⟩ = some (.int .i64 t[i].kind) ∧ w'.cell? ⟨b, off + i * 3 + 1, none⟩ = some (.int .i64 t[i].vertex) ∧ w'.cell? ⟨b, off + i * 3 + 2, none⟩ = some (.slice ka t[i].kids.length kc) ∧ SlI S w' .i64 (.slice ka t[i].kids.length kc) t[i].kids := by
    intro w' i hi hb
    obtain ⟨b, off, cap, g, hve, hc⟩ := (hv.below hb (Nat.le_refl _)).at_
    obtain ⟨h1, h2, h3, h4⟩ := hc i hi
    obtain ⟨ka, kc, hge⟩ := h4.slice
    rw [hge] at h3 h4
    have hve := hve (by omega)
    simp only [Value.slice.injEq] at hve
    exact ⟨b, off, ka, kc, by rw [hve.1], h1, h2, h3, h4⟩
  have HC := Lib.hid hcells; clear hcells
  go_enter Tryd.func119, Tryd.ntmps119
  go_wp2
  go_loopw [16, 4, 5] (fun i o l wr => ∃ k : Nat, k ≤ t.length ∧ i = .int .i64 k ∧ (∀ j, j < k → NOk t j) ∧ Own wr w.heap.size 3 1 o (openF t k).length ((natsZ (openF t k)).map (.int .i64)) ∧ Own wr w.heap.size 71 1 l k ((natsI (lvF t k)).map (.int .u32)) ∧ Apart o l ∧ Below w.heap.size w wr) (fun i _ _ _ => t.length - (intOf i).toNat)
  case atStart =>
    refine ⟨0, Nat.zero_le _, rfl, fun j h => by omega, ?_, ?_, ?_, ((Below.refl _ _).alloc (Nat.le_refl _) _).alloc (by simp) _⟩
    · exact (World.ownsRow_lit (base := w.heap.size) (e := 3) (size := 1) w #[] 0 (Nat.le_refl _) (by unfold maxLen; omega) rfl).alloc _
    · have := World.ownsRow_lit (base := w.heap.size) (e := 71) (size := 1) (w.alloc (.cells #[] 3)) #[] 0 (by simp) (by unfold maxLen; omega) rfl
      simpa [Own, lvF, natsI] using this
    · intro b h1 h2
      simp [Value.ownBlock] at h1 h2; omega
  case round =>
    obtain ⟨k, hk, rfl, hok, hop, hlv, hap, hq⟩ := hrel
    have hB := hq.size
    have HOK := Lib.hid hok; clear hok
    by_cases hlt : k < t.length
    case neg =>
      obtain rfl : k = t.length := by omega
      have hopl := hop.ints (k := .i64) (by have := openF_len t t.length; omega)
      have hlvl := hlv.ints (xs := natsI (lvF t t.length)) (by omega)
      obtain ⟨oa, oc, hoe⟩ := hopl.slice
      obtain ⟨la, lc, hle⟩ := hlvl.slice
      rw [natsZ_len] at hoe
      rw [natsI_len, lvF_len] at hle
      subst hoe hle
      by_cases h1 : (openF t t.length).length = 1
      case neg =>
        have h1b : (((openF t t.length).length : Int) != 1) = true := by rw [bne_iff_ne]; omega
        have HF := Lib.hid (partsB_false (t := t) fun h => h1 h.one)
        clear h1
        go_wp2
        go_ret2
        exact lvPost_no HF.out.symm HF.out hq
      have h1b : (((openF t t.length).length : Int) != 1) = false := by simp [h1]
      have hpos : 0 < t.length := by
        apply Nat.pos_of_ne_zero
        intro h0; rw [h0] at h1; simp [openF] at h1
      have hall := fun j (hj : j < t.length) => (HOK.out j hj).1
      have hmf := msk_facts (t := t) (t.length - 1) (by omega) (fun j hj => sok_down (hall j (by omega)))
      have H1 := Lib.hid h1; clear h1 hall
      obtain ⟨lb, lo, lcap, hle, hlc⟩ := hlvl.at_
      have hle := hle (by rw [natsI_len, lvF_len]; omega)
      simp only [Value.slice.injEq] at hle
      obtain ⟨rfl, -, -⟩ := hle
      have hcell := hlc (t.length - 1) (by rw [natsI_len, lvF_len]; omega)
      have hge : (natsI (lvF t t.length))[t.length - 1]'(by rw [natsI_len, lvF_len]; omega) = (msk t (t.length - 1) : Int) := by simp [natsI, lvF]
      rw [hge] at hcell
      clear hge hlc
      have hw2 : IntKind.i64.wrap ((t.length : Int) - 1) = (t.length : Int) - 1 := IntWalk.i64_in _ (by omega)
      have hw3 : ((t.length : Int) - 1).toNat = t.length - 1 := by omega
      have hw4 : (0 : Int) ≤ (t.length : Int) - 1 := by omega
      have hpp := pop_I (msk t (t.length - 1))
      have hp16 := pop_le16 hmf.1
      have hG : (((msk t (t.length - 1) : Nat) : Int) == (firstN (bitsI (msk t (t.length - 1))).length : Int)) = partsB t := by
        by_cases he : msk t (t.length - 1) = firstN (bitsI (msk t (t.length - 1))).length
        · rw [partsB_true (t := t) ⟨fun i hi => HOK.out i hi, H1.out, by rw [← hpp]; exact he⟩, beq_iff_eq]
          exact_mod_cast he
        · rw [partsB_false (t := t) (fun h => he (by rw [hpp]; exact h.all)), beq_eq_false_iff_ne]
          exact_mod_cast he
      have HG := Lib.hid hG; clear hG
      rw [← hpp] at hp16
      clear hpp
      go_wp2_with (first | (go_at_call 113; refine (size_any _ _ hmf.1).mono ?_; rintro e w' ⟨rfl, hd⟩) | (go_at_call 103; refine (firstOf_any _ _ (by omega) (by omega)).mono ?_; rintro e w' ⟨rfl, rfl⟩))
      go_ret2
      show LvPost _ _ _ (Ending.returned (.tuple #[_, .bool _])) _
      rw [HG.out]
      exact ⟨_, rfl, fun _ => hlv.drawn hd, hq.trans ((hd.below _).mono hB)⟩
    obtain ⟨b, off, ka, kc, hve, c1, c2, c3, hkr⟩ := HC.out _ k hlt hq
    simp only [Value.slice.injEq, and_true] at hve
    subst hve
    have hnd := nd_get hlt
    have hopl := openF_len t k
    have hoi := hop.ints (k := .i64) (by omega)
    have hli := hlv.ints (xs := natsI (lvF t k)) (by omega)
    obtain ⟨oa, oc, hoe⟩ := hoi.slice
    obtain ⟨la, lc, hle⟩ := hli.slice
    rw [natsZ_len] at hoe
    rw [natsI_len, lvF_len] at hle
    subst hoe hle
    have hdn : ∀ j, j < k → Down t j := fun j hj => sok_down (HOK.out j hj).1
    -- the end of a round that goes on, for any stack that is left
    generalize hp : t[k] = p at *
    obtain ⟨kind, vertex, kids⟩ := p
    have HP := Lib.hid hp; clear hp
    simp only at c1 c2 c3 hkr
    have hkl := hkr.len
    have hq0 : Below w.heap.size w (wr.alloc (.cells #[.int .i64 kind, .int .i64 vertex, .slice ka kids.length kc] 106)) := hq.alloc hB _
    by_cases h1 : kind = 1
    · have h1b : (kind == 1) = true := by simp [h1]
      by_cases hin : 0 ≤ vertex ∧ vertex ≤ 15
      case neg =>
        have hbb := inB_false hin
        have HF := Lib.hid (partsB_false (t := t) fun h => by
          rcases (h.ok k hlt).1 with ⟨_, _, g3, g4⟩ | ⟨g, _⟩
          · rw [hnd] at g3 g4; exact hin ⟨g3, g4⟩
          · rw [hnd] at g; exact g h1)
        clear h1
        go_wp2_with (go_at_call 72; refine (inRange_any _ _ _ _).mono ?_; rintro e w' ⟨rfl, rfl⟩)
        go_ret2
        exact lvPost_no HF.out.symm HF.out hq0
      have hbb := inB_true hin
      by_cases hk0 : kids.length = 0
      case neg =>
        have hkb : decide ((0 : Int) < (kids.length : Int)) = true := by simp; omega
        have hkbn : decide (0 < kids.length) = true := decide_eq_true (by omega)
        have HF := Lib.hid (partsB_false (t := t) fun h => by
          rcases (h.ok k hlt).1 with ⟨_, g2, _⟩ | ⟨g, _⟩
          · rw [hnd] at g2; simp only at g2; rw [g2] at hk0; simp at hk0
          · rw [hnd] at g; exact g h1)
        clear h1
        go_wp2_with (go_at_call 72; refine (inRange_any _ _ _ _).mono ?_; rintro e w' ⟨rfl, rfl⟩)
        go_ret2
        exact lvPost_no HF.out.symm HF.out hq0
      have hkb : decide ((0 : Int) < (kids.length : Int)) = false := decide_eq_false (by omega)
      have hkbn : decide (0 < kids.length) = false := decide_eq_false (by omega)
      have HN : NOk t k := ⟨.inl (by rw [hnd]; exact ⟨h1, List.eq_nil_of_length_eq_zero hk0, hin⟩), fun h => by rw [hnd] at h; exact absurd h1 h⟩
      have hm := msk_leaf hlt (by rw [hnd]; exact h1)
      have ho : openF t (k + 1) = openF t k ++ [k] := by rw [openF, if_pos (by rw [hnd]; exact h1)]
      rw [hnd] at hm
      have HM := Lib.hid hm; have HO := Lib.hid ho
      clear hm ho h1 hk0
      go_wp2_with (first
        | (go_at_call 72; refine (inRange_any _ _ _ _).mono ?_; rintro e w' ⟨rfl, rfl⟩)
        | (go_at_call 76; refine (one_any _ _ (by omega) (by omega)).mono ?_; rintro e w' ⟨rfl, rfl⟩)
        | (at_builtin; refine wpList_append1b elInt rfl _ _ rfl (hop.alloc _) rfl (by simp) rfl rfl (by omega) (by simp; omega) ?_; intro o' w1 hop1 hkept hmv; have hB1 := hkept.2.2.2.1; have hlv1 := (hlv.alloc _).kept hkept hap.symm; have hap1 : Apart o' _ := hap.moved hlv (by simp; omega) hmv; have hq1 := hkept.below hq0 (by simp; omega) hop.ge)
        | (at_builtin; refine wpList_append1 elSets rfl _ _ rfl hlv1 rfl rfl rfl (by omega) (by simp at hB1; omega) ?_; intro l' w2 hlv2 hkept2 hmv2; have hop2 := hop1.kept hkept2 hap1; have hap2 := (hap1.symm.moved hop1 (by simp) hmv2).symm; have hq2 := hkept2.below hq1 (by simp at hB1; omega) hlv.ge))
      go_roundw
      case rel =>
        refine ⟨k + 1, by omega, by go_num, fun j hj => ?_, ?_, ?_, hap2, hq2⟩
        · by_cases e : j = k
          · subst e; exact HN
          · exact HOK.out j (by omega)
        · rw [HO.out, natsZ_append]; simpa [natsZ] using hop2
        · rw [lvF_succ, natsI_snoc, HM.out]; simpa using hlv2
      case measure => simp [intOf]; omega
    have h1b : (kind == 1) = false := by simpa using h1
    have hsk : SOk t k → 2 ≤ kind ∧ kind ≤ 4 ∧ vertex = 0 := fun h => by
      rcases h with ⟨g, _⟩ | ⟨_, g2, g3, _⟩
      · rw [hnd] at g; exact absurd g h1
      · rw [hnd] at g2 g3; exact ⟨g2.1, g2.2, g3⟩
    by_cases hkind : kind = 2 ∨ kind = 3 ∨ kind = 4
    case neg =>
      have k2 : (kind == 2) = false := by rw [beq_eq_false_iff_ne]; omega
      have k3 : (kind == 3) = false := by rw [beq_eq_false_iff_ne]; omega
      have k4 : (kind == 4) = false := by rw [beq_eq_false_iff_ne]; omega
      have HF := Lib.hid (partsB_false (t := t) fun h => by have := hsk (h.ok k hlt).1; omega)
      clear h1 hkind hsk
      go_wp2
      go_ret2
      exact lvPost_no HF.out.symm HF.out hq0
    have hkr4 : 2 ≤ kind ∧ kind ≤ 4 := by omega
    have hkc3 := hkr.below ((Below.refl wr.heap.size wr).alloc (Nat.le_refl _) (.cells #[.int .i64 kind, .int .i64 vertex, .slice ka kids.length kc] 106)) (Nat.le_refl _)
    have ho : openF t (k + 1) = (openF t k).take ((openF t k).length - kids.length) ++ [k] := by rw [openF, if_neg (by rw [hnd]; exact h1), hnd]
    have HO := Lib.hid ho; clear ho
    have hgk : vertex = 0 → (GKid kids (openF t k) (lvF t k) ↔ SOk t k ∧ AdjLe (kmsk t k)) := fun h => by
      have := gkid_ok hlt (by rw [hnd]; exact h1) (by rw [hnd]; exact hkr4) (by rw [hnd]; exact h)
      rw [hnd] at this; exact this
    have HGK := Lib.hid hgk; clear hgk
    have hkm : (kmsk t k).length = kids.length := by rw [kmsk, List.length_map, hnd]
    have hkg : ∀ j (h : j < (kmsk t k).length) (h2 : j < kids.length), (kmsk t k)[j] = msk t kids[j].toNat := by
      intro j h h2; simp [kmsk, hnd]
    have HKM := Lib.hid hkm; have HKG := Lib.hid hkg; clear hkm hkg
    have hne1 : (nd t k).kind ≠ 1 := by rw [hnd]; exact h1
    have HND := Lib.hid hnd; have HNE := Lib.hid hne1; clear hnd hne1 h1
    by_cases hvx : vertex = 0
    case neg =>
      have hvb : (vertex != 0) = true := by simpa using hvx
      have HF := Lib.hid (partsB_false (t := t) fun h => hvx (hsk (h.ok k hlt).1).2.2)
      clear hsk hvx
      rcases hkind with rfl | rfl | rfl
      all_goals
        go_wp2
        go_ret2
        exact lvPost_no HF.out.symm HF.out hq0
    have hvb : (vertex != 0) = false := by simpa using hvx
    have HVX := Lib.hid hvx; clear hvx hsk
    have hlm : ∀ m ∈ lvF t k, m < 65536 ∧ m ≠ 0 := by
      intro m hm
      simp only [lvF, List.mem_map, List.mem_range] at hm
      obtain ⟨j, hj, rfl⟩ := hm
      exact msk_facts j (by omega) (fun i hi => hdn i (by omega))
    have hgc := goodKids_any (w := wr.alloc (.cells #[.int .i64 kind, .int .i64 vertex, .slice ka kids.length kc] 106)) (ht.below hq0 (Nat.le_refl _)) hkc3 ((hop.alloc _).ints (xs := natsZ (openF t k)) (by omega)) ((hlv.alloc _).ints (xs := natsI (lvF t k)) (by omega)) (fun a ha => by rw [lvF_len]; exact openF_lt t k a ha) hlm
    clear hlm
    by_cases hgk : GKid kids (openF t k) (lvF t k)
    case neg =>
      have HF := Lib.hid (partsB_false (t := t) fun h => hgk ((HGK.out HVX.out).2 ⟨(h.ok k hlt).1, ((h.ok k hlt).2 HNE.out).1⟩))
      rw [gkidB_false hgk] at hgc
      clear hgk
      rcases hkind with rfl | rfl | rfl
      all_goals
        go_wp2_with (go_at_call 122; refine hgc.mono ?_; rintro e w' ⟨rfl, m, rfl⟩)
        go_ret2
        exact lvPost_no HF.out.symm HF.out (hq0.drew' _)
    rw [gkidB_true hgk] at hgc
    have hso := (HGK.out HVX.out).1 hgk
    have hdk : ∀ j, j ≤ k → Down t j := fun j hj => by
      by_cases e : j = k
      · subst e; exact sok_down hso.1
      · exact hdn j (by omega)
    have hkl2 := hgk.2.1
    have hkids : ∀ r (h : r < kids.length), ∃ nx : Nat, kids[r] = nx ∧ nx < k := by
      intro r h
      have := gkTo_kid hgk h
      refine ⟨_, this, ?_⟩
      have h3 := gk_drop hgk.2.1
      rw [List.getD_eq_getElem?_getD, List.getElem?_eq_getElem (by omega)]
      exact openF_lt t k _ (List.mem_of_mem_drop (List.getElem_mem _))
    have hksm : ∀ m ∈ kmsk t k, m < 65536 ∧ m ≠ 0 := kmsk_small hlt (fun j hj => by
      by_cases e : j = k
      · subst e; exact hso.1
      · exact (HOK.out j (by omega)).1)
    have hmk := msk_kfold hlt hdk HNE.out
    rw [HKM.out] at hmk
    have HMK := Lib.hid hmk; have HSO := Lib.hid hso; have HKI := Lib.hid hkids; have HSM := Lib.hid hksm; have HDN := Lib.hid hdk
    clear hmk hso hkids hksm hdk hgk hdn
    have hliA := hli.below ((Below.refl wr.heap.size wr).alloc (Nat.le_refl _) (.cells #[.int .i64 kind, .int .i64 vertex, .slice ka kids.length kc] 106)) (Nat.le_refl _)
    have hopA := hop.alloc (.cells #[.int .i64 kind, .int .i64 vertex, .slice ka kids.length kc] 106)
    have hlvA := hlv.alloc (.cells #[.int .i64 kind, .int .i64 vertex, .slice ka kids.length kc] 106)
    rcases hkind with rfl | rfl | rfl
    all_goals
      go_wp2_with (go_at_call 122; refine hgc.mono ?_; rintro e w3 ⟨rfl, hd⟩; have d2 : w3.cell? ⟨wr.heap.size, 2, none⟩ = some (.slice ka kids.length kc) := (hd.cell _).trans (by simp [go_sem]))
      clear hgc
      have hq1 := hq0.trans (hd.below _)
      have hB3 := hq1.size
      have hkc4 := hkc3.drawn hd
      have hl4 := hliA.drawn hd
      obtain ⟨kb, ko, kcap, hke, hkc⟩ := hkc4.at_
      obtain ⟨lb, lo, lcap, hle, hlc⟩ := hl4.at_
      have hk2 := hkl2
      have hkpos : 0 < kids.length := by
        rcases HSO.out.1 with ⟨_, g, _⟩ | ⟨_, _, _, g, _⟩
        · rcases HND.out ▸ g with h
          exfalso; rw [HND.out] at g; simp only at g
          have := HNE.out; rcases HSO.out.1 with ⟨g1, _⟩ | ⟨_, _, _, g4, _⟩
          · exact this g1
          · rw [HND.out] at g4; simp only at g4; rw [g] at g4; simp at g4
        · rw [HND.out] at g; simp only at g; omega
      have hke := hke hkpos
      have hle := hle (by rw [natsI_len, lvF_len]; obtain ⟨nx, _, h⟩ := HKI.out 0 hkpos; omega)
      simp only [Value.slice.injEq] at hke hle
      obtain ⟨rfl, -, -⟩ := hke
      obtain ⟨rfl, -, -⟩ := hle
      have HKC := Lib.hid hkc; have HLC := Lib.hid hlc; clear hkc hlc hkc4 hl4
      go_wp2
      go_loop [56, 8] (fun i s => ∃ r : Nat, r ≤ kids.length ∧ i = .int .i64 r ∧ s = .int .u32 (kfold (kmsk t k) r : Int) ∧ Disj ((kmsk t k).take r) 0) (fun i _ => kids.length - (intOf i).toNat)
      case atStart => exact ⟨0, Nat.zero_le _, rfl, by simp [kfold], by simp [Disj]⟩
      case round =>
        obtain ⟨r, hr, rfl, rfl, hdj⟩ := hrel
        have HDJ := Lib.hid hdj; clear hdj
        by_cases hlt2 : r < kids.length
        · have hcell := HKC.out r hlt2
          obtain ⟨nx, hnx, hnk⟩ := HKI.out r hlt2
          rw [hnx] at hcell
          have hcl := HLC.out nx (by rw [natsI_len, lvF_len]; exact hnk)
          have hge : (natsI (lvF t k))[nx]'(by rw [natsI_len, lvF_len]; exact hnk) = (msk t nx : Int) := by simp [natsI, lvF]
          rw [hge] at hcl
          have hrm : r < (kmsk t k).length := by rw [HKM.out]; exact hlt2
          have hmr := HKG.out r hrm hlt2
          rw [hnx, Int.toNat_natCast] at hmr
          have hkf := kfold_succ hrm
          have hsm := HSM.out _ (List.getElem_mem hrm)
          rw [hmr] at hkf hsm
          have hfl := kfold_lt (fun m hm => (HSM.out m hm).1) r
          have hand := u32_and_nat (kfold (kmsk t k) r) (msk t nx) (by omega) (by omega)
          have hor := u32_or_nat (kfold (kmsk t k) r) (msk t nx) (by omega) (by omega)
          rw [← hkf] at hor
          have HMR := Lib.hid hmr; clear hge hmr hkf hnx
          by_cases h0 : kfold (kmsk t k) r &&& msk t nx = 0
          · have h0b : (((kfold (kmsk t k) r &&& msk t nx : Nat) : Int) != 0) = false := by simp [h0]
            have HD := Lib.hid (disj_step hrm HDJ.out (by rw [HMR.out]; exact h0))
            have H0 := Lib.hid h0; clear h0
            go_wp2
            go_round
            case rel => exact ⟨r + 1, by omega, by go_num, rfl, HD.out⟩
            case measure => simp [intOf]; omega
          · have h0b : (((kfold (kmsk t k) r &&& msk t nx : Nat) : Int) != 0) = true := by simpa using h0
            have HF := Lib.hid (partsB_false (t := t) fun h => disj_bad hrm (by rw [HMR.out]; exact h0) ((h.ok k hlt).2 HNE.out).2)
            clear h0
            go_wp2
            go_ret2
            exact lvPost_no HF.out.symm HF.out hq1
        · obtain rfl : r = kids.length := by omega
          have hN : NOk t k := ⟨HSO.out.1, fun _ => ⟨HSO.out.2, by
            have := HDJ.out
            rwa [← HKM.out, List.take_length] at this⟩⟩
          have HN := Lib.hid hN; clear hN
          rw [← HMK.out]
          have hs1 : IntKind.i64.wrap (((openF t k).length : Int) - kids.length) = (((openF t k).length - kids.length : Nat) : Int) := by rw [IntWalk.i64_in _ (by omega)]; omega
          have hcap := hoi.capOf.2.1
          have hcap2 : (openF t k).length - kids.length ≤ oc := by omega
          have hcap3 : (openF t k).length - kids.length ≤ (openF t k).length := by omega
          have hop3 := (hopA.drawn hd).reslice hcap3
          have hlv3 := hlvA.drawn hd
          rw [Nat.mul_one] at hop3
          have hap3 : Apart (.slice oa ((openF t k).length - kids.length) oc) (.slice (some ⟨lb, lo, none⟩) k lc) := fun b h => hap b (by rw [← h]; exact ownBlock_slice _ _ _ _)
          go_wp2_with (first
            | (at_builtin; refine wpList_append1b elInt rfl _ _ rfl hop3 rfl rfl rfl rfl (by omega) hB3 ?_; intro o' w1 hop1 hkept hmv; have hB1 := hkept.2.2.2.1; have hlv1 := hlv3.kept hkept hap3.symm; have hap1 : Apart o' _ := hap3.moved hlv3 (by simp) hmv; have hq2 := hkept.below hq1 hB3 hop3.ge)
            | (at_builtin; refine wpList_append1 elSets rfl _ _ rfl hlv1 rfl rfl rfl (by omega) (by omega) ?_; intro l' w2 hlv2 hkept2 hmv2; have hop2 := hop1.kept hkept2 hap1; have hap2 := (hap1.symm.moved hop1 (by simp) hmv2).symm; have hq3 := hkept2.below hq2 (by omega) hlv.ge))
          go_roundw
          case rel =>
            refine ⟨k + 1, by omega, by go_num, fun j hj => ?_, ?_, ?_, hap2, hq3⟩
            · by_cases e : j = k
              · subst e; exact HN.out
              · exact HOK.out j (by omega)
            · rw [HO.out, natsZ_append]; simpa [natsZ, List.map_take] using hop2
            · rw [lvF_succ, natsI_snoc]; simpa using hlv2
          case measure => simp [intOf]; omega
end Go.Proofs.YtfccpencgengaaaDoor
