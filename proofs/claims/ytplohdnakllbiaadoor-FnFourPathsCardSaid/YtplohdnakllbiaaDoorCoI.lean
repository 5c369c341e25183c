/- Is there a tree of union and join? By the program; CographIn; the law. -/
import Derived.Test.YtplohdnakllbiaaDoorCoB
import Derived.Test.YtplohdnakllbiaaDoorReach
import Derived.Test.YtplohdnakllbiaaDoorPop
import Derived.Test.YtplohdnakllbiaaDoorLaws
namespace Go.Proofs.YtplohdnakllbiaaDoor
open Go.RowKit
theorem complN_get {a : List Nat} {k : Nat} : (List.range k).map (fun v => andN (andN (firstN a.length) (a.getD v 0)) (bit v)) = (List.range k).map (fun v => andN (andN (firstN a.length) (a.getD v 0)) (bit v)) := rfl
theorem complN_len (a : List Nat) : (complN a).length = a.length := by simp [complN]
theorem complN_lt {a : List Nat} (h : a.length ≤ 16) : ∀ m ∈ complN a, m < 4294967296 := fun m hm => by
  simp only [complN, List.mem_map] at hm
  obtain ⟨v, _, rfl⟩ := hm
  have := firstN_lt h
  exact Nat.lt_of_le_of_lt (andN_le _ _) (Nat.lt_of_le_of_lt (andN_le _ _) (by omega))
set_option maxHeartbeats 2000000 in
theorem complement_any {S : Nat → Prop} {nv : Value} {a : List Nat} {w : World} (hn : SlI S w .u32 nv (natsI a)) (h16 : a.length ≤ 16) (hal : ∀ m ∈ a, m < 4294967296) :
    Calls Tryd.prog 116 #[nv] w fun e w' => ∃ u, e = .returned u ∧ Own w' w.heap.size 66 1 u a.length ((natsI (complN a)).map (.int .u32)) ∧ Below w.heap.size w w' := by
  obtain ⟨nb, no, nc, hne, hnc⟩ := hn.at_
  obtain ⟨na, nc2, rfl⟩ := hn.slice
  have hnl := natsI_len a
  rw [hnl] at hne ⊢
  have hf32 : firstN a.length < 4294967296 := by have := firstN_lt h16; omega
  obtain ⟨F, hF⟩ : ∃ F : Nat → Nat, F = fun v => andN (andN (firstN a.length) (a.getD v 0)) (bit v) := ⟨_, rfl⟩
  have hco : complN a = (List.range a.length).map F := by rw [hF]; rfl
  rw [hco]
  have HNL := Lib.hid hnl; clear hco hnl
  go_enter Tryd.func116, Tryd.ntmps116
  go_wp2
  go_loopw [3, 9] (fun o i wr => ∃ k : Nat, k ≤ a.length ∧ i = .int .i64 k ∧ Own wr w.heap.size 66 1 o k ((natsI ((List.range k).map F)).map (.int .u32)) ∧ Below w.heap.size w wr) (fun _ i _ => a.length - (intOf i).toNat)
  case atStart =>
    refine ⟨0, Nat.zero_le _, rfl, ?_, (Below.refl _ _).alloc (Nat.le_refl _) _⟩
    exact World.ownsRow_lit (base := w.heap.size) (e := 66) (size := 1) w #[] 0 (Nat.le_refl _) (by unfold maxLen; omega) rfl
  case round =>
    obtain ⟨k, hk, rfl, hown, hq⟩ := hrel
    have hB := hq.size
    by_cases hlt : k < a.length
    · have hc0 := hnc k (by rw [HNL.out]; exact hlt)
      rw [natsI_get] at hc0
      have hne2 := hne (by omega)
      simp only [Value.slice.injEq] at hne2
      obtain ⟨rfl, -, rfl⟩ := hne2
      have hcell := (hq.cell (p := ⟨nb, no + k, none⟩) (cell_lt hc0)).trans hc0
      have hax := hal a[k] (List.getElem_mem _)
      have hFk : F k = andN (andN (firstN a.length) a[k]) (bit k) := by rw [hF]; simp [hlt]
      have h1 : andN (firstN a.length) a[k] < 4294967296 := Nat.lt_of_le_of_lt (andN_le _ _) hf32
      have e1 : bits BinOp.andNot IntKind.u32 (firstN a.length : Int) (a[k] : Int) = (andN (firstN a.length) a[k] : Int) := u32_andNot_nat _ _ hf32 hax
      have e2 : bits BinOp.andNot IntKind.u32 (andN (firstN a.length) a[k] : Int) (bit k : Int) = (andN (andN (firstN a.length) a[k]) (bit k) : Int) := u32_andNot_nat _ _ h1 (bit_lt (by omega))
      have HFK := Lib.hid hFk; clear hFk hc0
      generalize a[k] = y at *
      go_wp2_with (first
        | (go_at_call 65; refine (allOf_any _ _ _ _ h16).mono ?_; rintro e w' ⟨rfl, rfl⟩)
        | (go_at_call 66; refine (one_any _ _ (by omega) (by omega)).mono ?_; rintro e w' ⟨rfl, rfl⟩)
        | (at_builtin; refine wpList_append1 elNets rfl _ _ rfl hown rfl rfl rfl (by omega) hB ?_; intro v' w1 hown1 hkept hmv))
      go_roundw
      case rel => exact ⟨k + 1, by omega, by go_num, by rw [List.range_succ, List.map_append]; simpa [natsI, HFK.out] using hown1, hkept.below hq hB hown.ge⟩
      case measure => simp [intOf]; omega
    · obtain rfl : k = a.length := by omega
      go_wp2
      go_ret
      exact ⟨_, rfl, hown, hq⟩
theorem leafPart_any {w : World} {x : Int} : Calls Tryd.prog 160 #[.int .i64 x] w fun e w' => e = .returned (.agg #[.int .i64 1, .int .i64 x, .slice none 0 0]) ∧ Below w.heap.size w w' := by
  go_enter Tryd.func160, Tryd.ntmps160
  go_wp2
  refine bodyPost_ret (v := .agg #[.int .i64 1, .int .i64 x, .slice none 0 0]) (by simp [results, Tryd.results160, go_sem]) rfl ⟨rfl, (Below.refl _ _).alloc (Nat.le_refl _) _⟩
set_option maxRecDepth 100000 in
set_option maxHeartbeats 16000000 in
theorem addCoTree_any {av ov : Value} {a b : List Nat} (ha16 : a.length ≤ 16) (hbl : b.length = a.length) (hal : ∀ m ∈ a, m < 4294967296) (hbl32 : ∀ m ∈ b, m < 4294967296) : ∀ (n s : Nat) (tv : Value) (m : Nat) (xs : List Value) (B : Nat) (w : World) (S S2 : Nat → Prop), popN s ≤ n → 0 < popN s → s < 2 ^ a.length →
    SlI S w .u32 av (natsI a) → SlI S2 w .u32 ov (natsI b) → Own w B 124 3 tv m xs → m + 2 * popN s ≤ 1000 → B ≤ w.heap.size → 0 < B → Tab w →
    (∀ b, S b → b < w.heap.size ∧ tv.ownBlock ≠ some b) → (∀ b, S2 b → b < w.heap.size ∧ tv.ownBlock ≠ some b) →
    Calls Tryd.prog 143 #[av, ov, .int .u32 (s : Int), tv] w (TreeP 124 (coB a b n s) w tv B m (popN s)) := by
  intro n
  induction n with
  | zero => intro s tv m xs B w S S2 h1 h2; omega
  | succ n ih =>
    intro s tv m xs B w S S2 hpn hp0 hs hav hov ht hm hB hB0 hT hS hS2
    have hs32 : s < 4294967296 := Nat.lt_of_lt_of_le hs (by have := pow_le16 ha16; omega)
    have hs16 : s < 65536 + 1 := by have := pow_le16 ha16; omega
    have htl := fun b hb => (ht.lt b hb).2
    have htg := fun b hb => (ht.lt b hb).1
    obtain ⟨tva, tvc, rfl⟩ := ht.isSlice
    have hs0 : s ≠ 0 := fun e => by rw [e] at hp0; simp [popN, bitsN_zero] at hp0
    have hsz := fun (h : s < 65536) => size_any s w h
    have hs65 : s < 65536 := by
      have h1 : (2 : Nat) ^ a.length ≤ 65536 := pow_le16 ha16
      omega
    have hsz := hsz hs65
    rw [← popN_I] at hsz
    by_cases hp1 : popN s = 1
    case pos =>
      have hb1 : ((popN s : Int) == 1) = true := by rw [beq_iff_eq]; omega
      have hb2 : (popN s == 1) = true := by rw [beq_iff_eq]; omega
      have HC := Lib.hid (coB_leaf (a := a) (b := b) (n := n) hp1)
      have HP1 := Lib.hid hp1; clear hp1 ih
      go_enter Tryd.func143, Tryd.ntmps143
      go_wp2_with fail
      refine hsz.mono ?_
      rintro e w1 ⟨rfl, hd1⟩
      have hq1 : Below w.heap.size w w1 := hd1.below _
      have ht1 := ht.below hq1 (Nat.le_refl _)
      go_wp2_with (go_at_call 96; refine (least_any _ _ (hT.below hq1 (Nat.le_refl _)) hs0 hs32).mono ?_; rintro e w' ⟨rfl, rfl⟩)
      refine leafPart_any.mono ?_
      rintro e w2 ⟨rfl, hb2_⟩
      have hq2 := hq1.trans (hb2_.mono hq1.size)
      have ht2 := ht1.below hb2_ (Nat.le_refl _)
      have hB2 : B ≤ w2.heap.size := Nat.le_trans hB hq2.size
      go_wp2_with (at_builtin; refine wpList_append1m elParts rfl _ _ rfl ht2 rfl (by first | rfl | simp) rfl rfl (by simp [Value.oneCell']) (by omega) hB2 ?_; intro v' w3 hown1 hkept hmv)
      go_ret2
      rw [HC.out]
      have hwz := hq2.size
      exact ⟨_, rfl, fun _ => ⟨_, _, hown1, by omega, moved_or hmv (by simp; omega)⟩, (KeptBut.ofBelow _ hq2).then hkept (fun b hb => .inl hb)⟩
    have hb1 : ((popN s : Int) == 1) = false := by rw [beq_eq_false_iff_ne]; omega
    have hb2 : (popN s == 1) = false := by rw [beq_eq_false_iff_ne]; omega
    have hin := fun x => coParts_in (a := a) (b := b) (x := x) hs32
    have hsum := coParts_sum (a := a) (b := b) hs32
    have hpl := coParts_len a b s
    have hpl0 := partsN_len a s
    have hone := coB_one (a := a) (b := b) (n := n) hp1
    have hall := fun h1 => coB_all (a := a) (b := b) (n := n) hp1 h1
    have hbad := fun k h1 => coB_bad (a := a) (b := b) (n := n) (k := k) hp1 h1
    have HP0 := fun (w1 : World) (hb : Below w.heap.size w w1) => partsOf_any (hT.below hb (Nat.le_refl _)) (hav.below hb (Nat.le_refl _)) ha16 hal hs
    have HP1 := fun (w1 : World) (hb : Below w.heap.size w w1) => partsOf_any (hT.below hb (Nat.le_refl _)) (hov.below hb (Nat.le_refl _)) (by omega) hbl32 (by rw [hbl]; exact hs)
    have hco : coParts a b s = if (partsN a s).length = 1 then partsN b s else partsN a s := rfl
    generalize coParts a b s = P at *
    go_enter Tryd.func143, Tryd.ntmps143
    go_wp2_with fail
    refine hsz.mono ?_
    rintro e w0 ⟨rfl, hd0⟩
    have hq0 : Below w.heap.size w w0 := hd0.below _
    clear hsz
    go_wp2_with fail
    refine (HP0 _ hq0).mono ?_
    rintro e w1 ⟨pv0, rfl, hpv0, hb1_⟩
    have hq1 := hq0.trans (hb1_.mono hq0.size)
    have hpi0 := (Own.ints (xs := natsI (partsN a s)) hpv0 (by omega)).weak (S' := fun b => w0.heap.size ≤ b) (fun b hb => hpv0.ge b hb)
    obtain ⟨pv0a, pv0c, rfl⟩ := hpv0.isSlice
    by_cases h1 : (partsN a s).length = 1
    case pos =>
      have hb3 : (((partsN a s).length : Int) == 1) = true := by rw [beq_iff_eq]; omega
      have hb4 : ((partsN a s).length == 1) = true := by rw [beq_iff_eq]; omega
      rw [if_pos h1] at hco
      have hne : True := trivial
      have HH1 := Lib.hid h1; clear h1
      go_wp2_with fail
      refine (HP1 _ hq1).mono ?_
      rintro e wp ⟨pv, rfl, hpv, hbp⟩
      rw [← hco] at hpv
      have hqp := hq1.trans (hbp.mono hq1.size)
      have hpi := (Own.ints (xs := natsI P) hpv (by omega)).weak (S' := fun b => w1.heap.size ≤ b) (fun b hb => hpv.ge b hb)
      obtain ⟨pva, pvc, rfl⟩ := hpv.isSlice
      obtain ⟨Pl, hPlw, hszp, hPl2⟩ : ∃ Pl, w.heap.size ≤ Pl ∧ Pl ≤ wp.heap.size ∧ SlI (fun b => Pl ≤ b ∧ b < wp.heap.size) wp .u32 (.slice pva P.length pvc) (natsI P) :=
        ⟨w1.heap.size, hq1.size, hbp.size, hpi.low3⟩
      have HCO := Lib.hid hco; clear hco
      have htp := ht.below hqp (Nat.le_refl _)
      by_cases h1P : P.length = 1
      case pos =>
        first
        | exact absurd h1P hne
        | (have hb5 : ((P.length : Int) == 1) = true := by rw [beq_iff_eq]; omega
           have hb6 : (P.length == 1) = true := by rw [beq_iff_eq]; omega
           have HC := Lib.hid (hone h1P); clear hone
           go_wp2
           go_ret2
           rw [HC.out]
           exact ⟨_, rfl, (fun h => by cases h), KeptBut.ofBelow _ hqp⟩)
      have hb5 : ((P.length : Int) == 1) = false := by rw [beq_eq_false_iff_ne]; omega
      have hb6 : (P.length == 1) = false := by rw [beq_eq_false_iff_ne]; omega
      have hall := hall h1P
      have hbad := fun k => hbad k h1P
      have htwo := fun p => sumP_two h1P (fun p hp => (hin p hp).1) (p := p)
      have HALL := Lib.hid hall; have HBAD := Lib.hid hbad; clear hall hbad hone HP0 HP1
      have hwzp := hqp.size
      go_wp2
      go_loopw [3, 42] (fun t i wr => ∃ (k m2 : Nat) (xs2 ks : List Value) (kv kz : Value), i = .int .i64 k ∧ k ≤ P.length ∧ (∀ j (hj : j < P.length), j < k → coB a b n P[j] = true) ∧ Own wr B 124 3 t m2 xs2 ∧ m2 + k ≤ m + 2 * sumP (P.take k) ∧
        (∀ b, t.ownBlock = some b → (Value.slice tva m tvc).ownBlock = some b ∨ wp.heap.size < b) ∧ Own wr wp.heap.size 124 3 (.slice (some ⟨wp.heap.size, 0, none⟩) 1 1) 1 [kz, .int .i64 0, kv] ∧ kz.oneCell' = true ∧ Own wr (wp.heap.size + 1) 2 1 kv k ks ∧ Apart kv t ∧ KeptBut w wr (Value.slice tva m tvc).ownBlock ∧
        SlI (fun b => Pl ≤ b ∧ b < wp.heap.size) wr .u32 (.slice pva P.length pvc) (natsI P)) (fun _ i _ => P.length - (intOf i).toNat)
      case atStart =>
        refine ⟨0, m, xs, [], .slice none 0 0, _, rfl, Nat.zero_le _, (fun j _ h => by omega), htp.alloc _, by simp [sumP], (fun b hb => .inl hb), World.ownsRow_lit (base := wp.heap.size) (e := 124) (size := 3) wp _ 1 (Nat.le_refl _) (by unfold maxLen; omega) rfl, rfl, Own.nil _ _ _ _, (fun b h1 h2 => by simp [Value.ownBlock] at h1), KeptBut.ofBelow _ (hqp.alloc hqp.size _), hPl2.below ((Below.refl wp.heap.size wp).alloc (Nat.le_refl _) _) (Nat.le_refl _)⟩
      case round =>
        clear htp hPl2 hpv0 hpi0
        obtain ⟨k, m2, xs2, ks, kv, kz, rfl, hk, hok, htr, hml, htl2, hbx, hkz, hkd, hap, hkb, hpr⟩ := hrel
        obtain ⟨w5, rfl⟩ : ∃ x : World, x = wr := ⟨_, rfl⟩
        have HOK := Lib.hid hok; clear hok
        have hwz := hkb.2.2.2.1
        have hBw : B ≤ w5.heap.size := Nat.le_trans hB hwz
        have hbl5 : wp.heap.size < w5.heap.size := (hbx.lt wp.heap.size rfl).2
        obtain ⟨kva, kvc, rfl⟩ := hkd.isSlice
        obtain ⟨ta, tc, rfl⟩ := htr.isSlice
        have b0 := (World.ownsRow.cellAt hbx 0 (by omega)).trans (show _ = some kz from rfl)
        have b1 := (World.ownsRow.cellAt hbx 1 (by omega)).trans (show _ = some (.int .i64 0) from rfl)
        have b2 := (World.ownsRow.cellAt hbx 2 (by omega)).trans (show _ = some (.slice kva k kvc) from rfl)
        by_cases hlt : k < P.length
        case neg =>
          obtain rfl : k = P.length := by omega
          have HC := Lib.hid (HALL.out (fun j hj => HOK.out j hj hj)); clear HALL HBAD
          rw [List.take_length] at hml
          have hpp : P.length ≠ 0 := fun e => by
            rw [List.eq_nil_of_length_eq_zero e] at hsum
            simp [sumP] at hsum; omega
          have hml2 : m2 + P.length ≤ m + 2 * popN s := by omega
          clear hsum hml
          go_wp2_with (at_builtin; refine wpList_append1m elParts rfl _ _ rfl htr rfl (by first | rfl | simp) rfl rfl (by intro z hz; simp only [List.mem_cons, List.not_mem_nil, or_false] at hz; rcases hz with rfl | rfl | rfl; exact hkz; rfl; rfl) (by omega) hBw ?_; intro v' w6 hown6 hkept hmv)
          go_ret2
          rw [HC.out]
          exact ⟨_, rfl, fun _ => ⟨_, _, hown6, by omega, fun b hb => by
            rcases moved_or hmv (show w5.heap.size ≤ _ by simp) b hb with h | h
            · rcases htl2 b h with h | h
              · exact .inl h
              · exact .inr (by omega)
            · exact .inr (by omega)⟩, hkb.then hkept (fun b hb => by
            rcases htl2 b hb with h | h
            · exact .inl h
            · exact .inr (by omega))⟩
        have hPk := hin _ (List.getElem_mem hlt)
        have hPn := htwo _ (List.getElem_mem hlt)
        have hPt := sumP_take hlt
        have hP2 := sub_lt hs hPk.2.2
        have hsnx : sumP (P.take (k + 1)) = sumP (P.take k) + popN P[k] := by rw [List.take_succ_eq_append_getElem hlt, sumP_append]; simp [sumP]
        have hbk := HBAD.out k hlt
        have hokx : ∀ (h : coB a b n P[k] = true) j (hj : j < P.length), j < k + 1 → coB a b n P[j] = true := fun h j hj hjk => by
          by_cases e : j = k
          · subst e; exact h
          · exact HOK.out j hj (by omega)
        obtain ⟨pb, po, pcap, hpe, hpc5⟩ := hpr.at_
        have hpe := hpe (by rw [natsI_len]; omega)
        rw [natsI_len] at hpe
        simp only [Value.slice.injEq] at hpe
        obtain ⟨rfl, -, rfl⟩ := hpe
        have hpcell := hpc5 k (by rw [natsI_len]; exact hlt)
        rw [natsI_get] at hpcell
        have HOKX := Lib.hid hokx; have HBK := Lib.hid hbk; clear hokx hbk HOK hpc5 HBAD
        have hT5 : Tab w5 := fun i hi => (World.cell?_of_block (a := ⟨0, i, none⟩) (hkb.2.2.2.2 0 (by omega) (fun e => by have := htg _ e.symm; omega))).trans (hT i hi)
        have hih := ih P[k] (.slice ta m2 tc) m2 xs2 B w5 S S2 (by omega) hPk.1 hP2
          (hav.keep (fun b hb => hkb.2.2.2.2 b (hS b hb).1 (fun e => (hS b hb).2 e.symm))) (hov.keep (fun b hb => hkb.2.2.2.2 b (hS2 b hb).1 (fun e => (hS2 b hb).2 e.symm))) htr (by omega) hBw hB0 hT5
          (fun b hb => ⟨by have := (hS b hb).1; omega, fun e => by
            rcases htl2 b e with h | h
            · exact (hS b hb).2 h
            · have := (hS b hb).1; omega⟩)
          (fun b hb => ⟨by have := (hS2 b hb).1; omega, fun e => by
            rcases htl2 b e with h | h
            · exact (hS2 b hb).2 h
            · have := (hS2 b hb).1; omega⟩)
        generalize P[k] = p at *
        clear b0 b1 b2
        go_wp2_with fail
        (refine hih.mono ?_)
        rintro e w6 ⟨r, rfl, hr, hkw⟩
        clear hih
        have hkb6 : KeptBut w w6 (Value.slice tva m tvc).ownBlock := hkb.then hkw (fun b hb => by
          rcases htl2 b hb with h | h
          · exact .inl h
          · exact .inr (by omega))
        have hkd6 := Own.kept hkd hkw (fun b hb he => hap b hb he)
        have hbx6 := Own.kept hbx hkw (fun b hb he => by
          simp [Value.ownBlock] at hb
          rcases htl2 b he with h | h
          · have := htl b h; omega
          · omega)
        have hpr6 := hpr.keep (w' := w6) (fun b hb => hkw.2.2.2.2 b (by omega) (fun e => by
          rcases htl2 b e.symm with h | h
          · have := htl b h; omega
          · omega))
        have hB6 : wp.heap.size + 1 ≤ w6.heap.size := Nat.le_trans hbl5 hkw.2.2.2.1
        cases hcb : coB a b n p
        · have HC := Lib.hid (HBK.out hcb)
          clear hcb hr HOKX HBK
          go_wp2
          go_ret2
          rw [HC.out]
          exact ⟨_, rfl, (fun h => by cases h), hkb6⟩
        · have HX := Lib.hid (HOKX.out hcb)
          obtain ⟨m', xs', htr6, hm6, hloc⟩ := hr hcb
          clear hcb hr HOKX HBK
          obtain ⟨ra, rc, rfl⟩ := htr6.isSlice
          have hap6 : Apart (.slice kva k kvc) (.slice ra m' rc) := fun b hb he => by
            rcases hloc b he with h | h
            · exact hap b hb h
            · have := (hkd.lt b hb).2; omega
          have b2 := (World.ownsRow.cellAt hbx6 2 (by omega)).trans (show _ = some (.slice kva k kvc) from rfl)
          go_wp2_with (at_builtin; refine wpList_append1b elI64 rfl _ _ rfl hkd6 rfl (by first | rfl | simp) rfl rfl (by omega) hB6 ?_; intro kv' w8 hown8 hkept hmv; obtain ⟨ka8, kc8, rfl⟩ := hown8.isSlice; have hbx8 := Own.kept hbx6 hkept (fun b hb he => by simp [Value.ownBlock] at hb; have := (hkd6.lt b he).1; omega); have b28 := (World.ownsRow.cellAt hbx8 2 (by omega)).trans (show _ = some (.slice kva k kvc) from rfl); have f28 := World.ownsRow.frozenAt hbx8 2)
          have htr8 := Own.kept htr6 hkept (fun b hb he => hap6 b he hb)
          have hset : ∀ b, b ≠ wp.heap.size → (w8.setCell ⟨wp.heap.size, 2, none⟩ (.slice ka8 (k + 1) kc8)).heap[b]? = w8.heap[b]? := fun b hb => Below.heap_setCell _ _ _ _ (by simpa using hb)
          go_roundw
          case rel => exact ⟨k + 1, m', xs', _, .slice ka8 (k + 1) kc8, kz, by go_num, by omega, HX.out, htr8.keep (fun b hb => hset b (fun e => by
              rcases hloc b hb with h | h
              · rcases htl2 b h with h | h
                · have := htl b h; omega
                · omega
              · omega)), by rw [hsnx]; omega, (fun b hb => by
              rcases hloc b hb with h | h
              · exact htl2 b h
              · exact .inr (by omega)), hbx8.stored 2 _, hkz, hown8.keep (fun b hb => hset b (by have := (hown8.lt b hb).1; omega)), (hap6.moved htr6 (by simp) hmv), (hkb6.then hkept (fun b hb => .inr (by have := (hkd6.lt b hb).1; omega))).then (KeptBut.set w8 wp.heap.size 2 _) (fun b hb => .inr (by simp at hb; omega)), (hpr6.keep (fun b hb => hkept.2.2.2.2 b (by omega) (fun e => by have := (hkd6.lt b e.symm).1; omega))).keep (fun b hb => hset b (by omega))⟩
          case measure => simp [intOf]; omega
    case neg =>
      have hb3 : (((partsN a s).length : Int) == 1) = false := by rw [beq_eq_false_iff_ne]; omega
      have hb4 : ((partsN a s).length == 1) = false := by rw [beq_eq_false_iff_ne]; omega
      rw [if_neg h1] at hco
      have hne : P.length ≠ 1 := by rw [hco]; exact h1
      have HH1 := Lib.hid h1; clear h1
      obtain ⟨wp, rfl⟩ : ∃ x : World, x = w1 := ⟨_, rfl⟩
      obtain ⟨pva, rfl⟩ : ∃ x, x = pv0a := ⟨_, rfl⟩
      obtain ⟨pvc, rfl⟩ : ∃ x, x = pv0c := ⟨_, rfl⟩
      rw [← hco] at hpi0 ⊢
      rw [← hco] at hb3 hb4
      have hqp := hq1
      obtain ⟨Pl, hPlw, hszp, hPl2⟩ : ∃ Pl, w.heap.size ≤ Pl ∧ Pl ≤ wp.heap.size ∧ SlI (fun b => Pl ≤ b ∧ b < wp.heap.size) wp .u32 (.slice pva P.length pvc) (natsI P) :=
        ⟨w0.heap.size, hq0.size, hb1_.size, hpi0.low3⟩
      have HCO := Lib.hid hco; clear hco
      have htp := ht.below hqp (Nat.le_refl _)
      by_cases h1P : P.length = 1
      case pos =>
        first
        | exact absurd h1P hne
        | (have hb5 : ((P.length : Int) == 1) = true := by rw [beq_iff_eq]; omega
           have hb6 : (P.length == 1) = true := by rw [beq_iff_eq]; omega
           have HC := Lib.hid (hone h1P); clear hone
           go_wp2
           go_ret2
           rw [HC.out]
           exact ⟨_, rfl, (fun h => by cases h), KeptBut.ofBelow _ hqp⟩)
      have hb5 : ((P.length : Int) == 1) = false := by rw [beq_eq_false_iff_ne]; omega
      have hb6 : (P.length == 1) = false := by rw [beq_eq_false_iff_ne]; omega
      have hall := hall h1P
      have hbad := fun k => hbad k h1P
      have htwo := fun p => sumP_two h1P (fun p hp => (hin p hp).1) (p := p)
      have HALL := Lib.hid hall; have HBAD := Lib.hid hbad; clear hall hbad hone HP0 HP1
      have hwzp := hqp.size
      go_wp2
      go_loopw [3, 42] (fun t i wr => ∃ (k m2 : Nat) (xs2 ks : List Value) (kv kz : Value), i = .int .i64 k ∧ k ≤ P.length ∧ (∀ j (hj : j < P.length), j < k → coB a b n P[j] = true) ∧ Own wr B 124 3 t m2 xs2 ∧ m2 + k ≤ m + 2 * sumP (P.take k) ∧
        (∀ b, t.ownBlock = some b → (Value.slice tva m tvc).ownBlock = some b ∨ wp.heap.size < b) ∧ Own wr wp.heap.size 124 3 (.slice (some ⟨wp.heap.size, 0, none⟩) 1 1) 1 [kz, .int .i64 0, kv] ∧ kz.oneCell' = true ∧ Own wr (wp.heap.size + 1) 2 1 kv k ks ∧ Apart kv t ∧ KeptBut w wr (Value.slice tva m tvc).ownBlock ∧
        SlI (fun b => Pl ≤ b ∧ b < wp.heap.size) wr .u32 (.slice pva P.length pvc) (natsI P)) (fun _ i _ => P.length - (intOf i).toNat)
      case atStart =>
        refine ⟨0, m, xs, [], .slice none 0 0, _, rfl, Nat.zero_le _, (fun j _ h => by omega), htp.alloc _, by simp [sumP], (fun b hb => .inl hb), World.ownsRow_lit (base := wp.heap.size) (e := 124) (size := 3) wp _ 1 (Nat.le_refl _) (by unfold maxLen; omega) rfl, rfl, Own.nil _ _ _ _, (fun b h1 h2 => by simp [Value.ownBlock] at h1), KeptBut.ofBelow _ (hqp.alloc hqp.size _), hPl2.below ((Below.refl wp.heap.size wp).alloc (Nat.le_refl _) _) (Nat.le_refl _)⟩
      case round =>
        clear htp hPl2 hpv0 hpi0
        obtain ⟨k, m2, xs2, ks, kv, kz, rfl, hk, hok, htr, hml, htl2, hbx, hkz, hkd, hap, hkb, hpr⟩ := hrel
        obtain ⟨w5, rfl⟩ : ∃ x : World, x = wr := ⟨_, rfl⟩
        have HOK := Lib.hid hok; clear hok
        have hwz := hkb.2.2.2.1
        have hBw : B ≤ w5.heap.size := Nat.le_trans hB hwz
        have hbl5 : wp.heap.size < w5.heap.size := (hbx.lt wp.heap.size rfl).2
        obtain ⟨kva, kvc, rfl⟩ := hkd.isSlice
        obtain ⟨ta, tc, rfl⟩ := htr.isSlice
        have b0 := (World.ownsRow.cellAt hbx 0 (by omega)).trans (show _ = some kz from rfl)
        have b1 := (World.ownsRow.cellAt hbx 1 (by omega)).trans (show _ = some (.int .i64 0) from rfl)
        have b2 := (World.ownsRow.cellAt hbx 2 (by omega)).trans (show _ = some (.slice kva k kvc) from rfl)
        by_cases hlt : k < P.length
        case neg =>
          obtain rfl : k = P.length := by omega
          have HC := Lib.hid (HALL.out (fun j hj => HOK.out j hj hj)); clear HALL HBAD
          rw [List.take_length] at hml
          have hpp : P.length ≠ 0 := fun e => by
            rw [List.eq_nil_of_length_eq_zero e] at hsum
            simp [sumP] at hsum; omega
          have hml2 : m2 + P.length ≤ m + 2 * popN s := by omega
          clear hsum hml
          go_wp2_with (at_builtin; refine wpList_append1m elParts rfl _ _ rfl htr rfl (by first | rfl | simp) rfl rfl (by intro z hz; simp only [List.mem_cons, List.not_mem_nil, or_false] at hz; rcases hz with rfl | rfl | rfl; exact hkz; rfl; rfl) (by omega) hBw ?_; intro v' w6 hown6 hkept hmv)
          go_ret2
          rw [HC.out]
          exact ⟨_, rfl, fun _ => ⟨_, _, hown6, by omega, fun b hb => by
            rcases moved_or hmv (show w5.heap.size ≤ _ by simp) b hb with h | h
            · rcases htl2 b h with h | h
              · exact .inl h
              · exact .inr (by omega)
            · exact .inr (by omega)⟩, hkb.then hkept (fun b hb => by
            rcases htl2 b hb with h | h
            · exact .inl h
            · exact .inr (by omega))⟩
        have hPk := hin _ (List.getElem_mem hlt)
        have hPn := htwo _ (List.getElem_mem hlt)
        have hPt := sumP_take hlt
        have hP2 := sub_lt hs hPk.2.2
        have hsnx : sumP (P.take (k + 1)) = sumP (P.take k) + popN P[k] := by rw [List.take_succ_eq_append_getElem hlt, sumP_append]; simp [sumP]
        have hbk := HBAD.out k hlt
        have hokx : ∀ (h : coB a b n P[k] = true) j (hj : j < P.length), j < k + 1 → coB a b n P[j] = true := fun h j hj hjk => by
          by_cases e : j = k
          · subst e; exact h
          · exact HOK.out j hj (by omega)
        obtain ⟨pb, po, pcap, hpe, hpc5⟩ := hpr.at_
        have hpe := hpe (by rw [natsI_len]; omega)
        rw [natsI_len] at hpe
        simp only [Value.slice.injEq] at hpe
        obtain ⟨rfl, -, rfl⟩ := hpe
        have hpcell := hpc5 k (by rw [natsI_len]; exact hlt)
        rw [natsI_get] at hpcell
        have HOKX := Lib.hid hokx; have HBK := Lib.hid hbk; clear hokx hbk HOK hpc5 HBAD
        have hT5 : Tab w5 := fun i hi => (World.cell?_of_block (a := ⟨0, i, none⟩) (hkb.2.2.2.2 0 (by omega) (fun e => by have := htg _ e.symm; omega))).trans (hT i hi)
        have hih := ih P[k] (.slice ta m2 tc) m2 xs2 B w5 S S2 (by omega) hPk.1 hP2
          (hav.keep (fun b hb => hkb.2.2.2.2 b (hS b hb).1 (fun e => (hS b hb).2 e.symm))) (hov.keep (fun b hb => hkb.2.2.2.2 b (hS2 b hb).1 (fun e => (hS2 b hb).2 e.symm))) htr (by omega) hBw hB0 hT5
          (fun b hb => ⟨by have := (hS b hb).1; omega, fun e => by
            rcases htl2 b e with h | h
            · exact (hS b hb).2 h
            · have := (hS b hb).1; omega⟩)
          (fun b hb => ⟨by have := (hS2 b hb).1; omega, fun e => by
            rcases htl2 b e with h | h
            · exact (hS2 b hb).2 h
            · have := (hS2 b hb).1; omega⟩)
        generalize P[k] = p at *
        clear b0 b1 b2
        go_wp2_with fail
        (refine hih.mono ?_)
        rintro e w6 ⟨r, rfl, hr, hkw⟩
        clear hih
        have hkb6 : KeptBut w w6 (Value.slice tva m tvc).ownBlock := hkb.then hkw (fun b hb => by
          rcases htl2 b hb with h | h
          · exact .inl h
          · exact .inr (by omega))
        have hkd6 := Own.kept hkd hkw (fun b hb he => hap b hb he)
        have hbx6 := Own.kept hbx hkw (fun b hb he => by
          simp [Value.ownBlock] at hb
          rcases htl2 b he with h | h
          · have := htl b h; omega
          · omega)
        have hpr6 := hpr.keep (w' := w6) (fun b hb => hkw.2.2.2.2 b (by omega) (fun e => by
          rcases htl2 b e.symm with h | h
          · have := htl b h; omega
          · omega))
        have hB6 : wp.heap.size + 1 ≤ w6.heap.size := Nat.le_trans hbl5 hkw.2.2.2.1
        cases hcb : coB a b n p
        · have HC := Lib.hid (HBK.out hcb)
          clear hcb hr HOKX HBK
          go_wp2
          go_ret2
          rw [HC.out]
          exact ⟨_, rfl, (fun h => by cases h), hkb6⟩
        · have HX := Lib.hid (HOKX.out hcb)
          obtain ⟨m', xs', htr6, hm6, hloc⟩ := hr hcb
          clear hcb hr HOKX HBK
          obtain ⟨ra, rc, rfl⟩ := htr6.isSlice
          have hap6 : Apart (.slice kva k kvc) (.slice ra m' rc) := fun b hb he => by
            rcases hloc b he with h | h
            · exact hap b hb h
            · have := (hkd.lt b hb).2; omega
          have b2 := (World.ownsRow.cellAt hbx6 2 (by omega)).trans (show _ = some (.slice kva k kvc) from rfl)
          go_wp2_with (at_builtin; refine wpList_append1b elI64 rfl _ _ rfl hkd6 rfl (by first | rfl | simp) rfl rfl (by omega) hB6 ?_; intro kv' w8 hown8 hkept hmv; obtain ⟨ka8, kc8, rfl⟩ := hown8.isSlice; have hbx8 := Own.kept hbx6 hkept (fun b hb he => by simp [Value.ownBlock] at hb; have := (hkd6.lt b he).1; omega); have b28 := (World.ownsRow.cellAt hbx8 2 (by omega)).trans (show _ = some (.slice kva k kvc) from rfl); have f28 := World.ownsRow.frozenAt hbx8 2)
          have htr8 := Own.kept htr6 hkept (fun b hb he => hap6 b he hb)
          have hset : ∀ b, b ≠ wp.heap.size → (w8.setCell ⟨wp.heap.size, 2, none⟩ (.slice ka8 (k + 1) kc8)).heap[b]? = w8.heap[b]? := fun b hb => Below.heap_setCell _ _ _ _ (by simpa using hb)
          go_roundw
          case rel => exact ⟨k + 1, m', xs', _, .slice ka8 (k + 1) kc8, kz, by go_num, by omega, HX.out, htr8.keep (fun b hb => hset b (fun e => by
              rcases hloc b hb with h | h
              · rcases htl2 b h with h | h
                · have := htl b h; omega
                · omega
              · omega)), by rw [hsnx]; omega, (fun b hb => by
              rcases hloc b hb with h | h
              · exact htl2 b h
              · exact .inr (by omega)), hbx8.stored 2 _, hkz, hown8.keep (fun b hb => hset b (by have := (hown8.lt b hb).1; omega)), (hap6.moved htr6 (by simp) hmv), (hkb6.then hkept (fun b hb => .inr (by have := (hkd6.lt b hb).1; omega))).then (KeptBut.set w8 wp.heap.size 2 _) (fun b hb => .inr (by simp at hb; omega)), (hpr6.keep (fun b hb => hkept.2.2.2.2 b (by omega) (fun e => by have := (hkd6.lt b e.symm).1; omega))).keep (fun b hb => hset b (by omega))⟩
          case measure => simp [intOf]; omega
end Go.Proofs.YtplohdnakllbiaaDoor
