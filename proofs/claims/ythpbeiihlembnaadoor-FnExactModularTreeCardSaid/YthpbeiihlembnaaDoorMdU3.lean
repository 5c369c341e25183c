/- ModularTree: the program's search. -/
import Derived.Test.YthpbeiihlembnaaDoorMdU2
import Derived.Test.YthpbeiihlembnaaDoorCoI
namespace Go.Proofs.YthpbeiihlembnaaDoor
open Go.RowKit
set_option maxRecDepth 100000 in
set_option maxHeartbeats 16000000 in
theorem addModTree_t {av ov : Value} {g : List (List Int)} (hg : GOk g) : ∀ (n s : Nat) (tv : Value) (t : List PNode) (B : Nat) (w : World) (S S2 X : Nat → Prop), popN s ≤ n → 0 < popN s → s < 2 ^ g.length →
    SlI S w .u32 av (natsI (netsL g)) → SlI S2 w .u32 ov (natsI (complN (netsL g))) → OwnX X w B 126 2 tv t → t.length + 2 * popN s ≤ 1000 → B ≤ w.heap.size → 0 < B → Tab w → (∀ b, X b → b < w.heap.size) →
    (∀ b, S b → b < w.heap.size ∧ tv.ownBlock ≠ some b) → (∀ b, S2 b → b < w.heap.size ∧ tv.ownBlock ≠ some b) →
    Calls Tryd.prog 125 #[av, ov, .int .u32 (s : Int), tv] w (TreeM 126 2 X ((mdT g n s t).getD []) w tv B) := by
  have hlen := netsL_len g
  have ha16 : (netsL g).length ≤ 16 := by rw [hlen]; exact hg.hi
  have hbl : (complN (netsL g)).length = (netsL g).length := by simp [complN]
  have hal : ∀ m ∈ netsL g, m < 4294967296 := netsL_lt hg
  have hbl32 : ∀ m ∈ complN (netsL g), m < 4294967296 := fun m hm => by
    obtain ⟨x, -, rfl⟩ := List.mem_map.1 hm
    exact Nat.lt_of_le_of_lt (andN_le _ _) (Nat.lt_of_le_of_lt (andN_le _ _) (by have := firstN_lt (n := (netsL g).length) (by omega); omega))
  have h16 := hg.hi
  intro n
  induction n with
  | zero => intro s tv t B w S S2 X h1 h2; omega
  | succ n ih =>
    intro s tv t B w S S2 X hpn hp0 hs hav hov hTr hm hB hB0 hT hXw hS hS2
    have hs32 : s < 4294967296 := Nat.lt_of_lt_of_le hs (by have := pow_le16 h16; omega)
    have hs16 : s < 65536 + 1 := by have := pow_le16 h16; omega
    have htl := fun b hb => (hTr.lt b hb).2
    have htg := fun b hb => (hTr.lt b hb).1
    obtain ⟨tva, tvc, rfl⟩ := hTr.isSlice
    have hs0 : s ≠ 0 := fun e => by rw [e] at hp0; simp [popN, bitsN_zero] at hp0
    have hsz := fun (h : s < 65536) => size_any s w h
    have hs65 : s < 65536 := by
      have h1 : (2 : Nat) ^ g.length ≤ 65536 := pow_le16 h16
      omega
    have hsz := hsz hs65
    rw [← popN_I] at hsz
    by_cases hp1 : popN s = 1
    case pos =>
      have hb1 : ((popN s : Int) == 1) = true := by rw [beq_iff_eq]; omega
      have hb2 : (popN s == 1) = true := by rw [beq_iff_eq]; omega
      have HC := Lib.hid (show (mdT g (n + 1) s t).getD [] = t ++ [⟨1, (Lib.ctz 32 s : Nat), []⟩] by rw [mdT_leaf hp1]; rfl)
      have HP1 := Lib.hid hp1; clear hp1 ih
      go_enter Tryd.func125, Tryd.ntmps125
      go_wp2_with fail
      refine hsz.mono ?_
      rintro e w1 ⟨rfl, hd1⟩
      have hq1 : Below w.heap.size w w1 := hd1.below _
      go_wp2_with (go_at_call 100; refine (least_any _ _ (hT.below hq1 (Nat.le_refl _)) hs0 hs32).mono ?_; rintro e w' ⟨rfl, rfl⟩)
      refine leafPart_any.mono ?_
      rintro e w2 ⟨rfl, hb2_⟩
      have hq2 := hq1.trans (hb2_.mono hq1.size)
      have hwz := hq2.size
      obtain ⟨xs, vs, hcs, hown, hap, hkd, hXu, hXs⟩ := hTr.below hq2
      have hB2 : B ≤ w2.heap.size := Nat.le_trans hB hq2.size
      go_wp2_with (at_builtin; refine wpList_append1m elParts rfl _ _ rfl hown rfl (by first | rfl | simp) rfl rfl (by simp [Value.oneCell']) (by omega) hB2 ?_; intro v' w3 hown1 hkept hmv)
      go_ret
      rw [HC.out]
      exact ⟨_, rfl, ownX_snoc (p := ⟨1, (Lib.ctz 32 s : Nat), []⟩) (v := .slice none 0 0) hcs hap hkd hXs hXu (fun b hb => by have := hXw b hb; omega) hown1 (Own.nil _ _ _ _) (fun i hi b _ h => by simp [Value.ownBlock] at h) (fun b h => by simp [Value.ownBlock] at h) (fun b h => by simp [Value.ownBlock] at h) hkept (hmv.elim (fun h => .inl h) (fun h => .inr ⟨_, h, by simp⟩)), moved_or hmv (by simp; omega), (KeptBut.ofBelow _ hq2).then hkept (fun b hb => .inl hb)⟩
    have hb1 : ((popN s : Int) == 1) = false := by rw [beq_eq_false_iff_ne]; omega
    have hb2 : (popN s == 1) = false := by rw [beq_eq_false_iff_ne]; omega
    have hok := mdParts_ok hg hs (by omega)
    have hin := fun x (hx : x ∈ mdParts g s) => hok.in_ x hx
    have hsum := hok.sum
    have hpl := hok.len
    have hP2 := hok.two
    have hpl0 := partsN_len (netsL g) s
    have hpl1 := partsN_len (complN (netsL g)) s
    have hall := fun t2 ks => mdT_kids (g := g) (n := n) (t := t) (t2 := t2) (ks := ks) hp1
    have hck : mdKind g s = if (partsN (netsL g) s).length = 1 then if (partsN (complN (netsL g)) s).length = 1 then 4 else 3 else 2 := rfl
    have hprim := primeS_of hg hs (by omega)
    have hsome := fun (p : Nat) (t2 : List PNode) (h : p ∈ mdParts g s) => mdT_some (n := n) hg t2 (sub_lt hs (hin p h).2.2.1) (hin p h).1 (by have := (hin p h).2.2.2; omega)
    generalize mdKind g s = ck at hall hck
    clear hok
    have HGR := fun (w1 : World) (hb : Below w.heap.size w w1) (hp : PrimeS g s) => largestModules_any (hT.below hb (Nat.le_refl _)) hg hp (hav.below hb (Nat.le_refl _))
    have HP0 := fun (w1 : World) (hb : Below w.heap.size w w1) => partsOf_any (hT.below hb (Nat.le_refl _)) (hav.below hb (Nat.le_refl _)) ha16 hal (by rw [hlen]; exact hs)
    have HP1 := fun (w1 : World) (hb : Below w.heap.size w w1) => partsOf_any (hT.below hb (Nat.le_refl _)) (hov.below hb (Nat.le_refl _)) (by omega) hbl32 (by rw [hbl, hlen]; exact hs)
    have hco : mdParts g s = if (partsN (netsL g) s).length = 1 then if (partsN (complN (netsL g)) s).length = 1 then grtN g s else partsN (complN (netsL g)) s else partsN (netsL g) s := rfl
    generalize mdParts g s = P at *
    go_enter Tryd.func125, Tryd.ntmps125
    go_wp2_with fail
    refine hsz.mono ?_
    rintro e w0 ⟨rfl, hd0⟩
    have hq0 : Below w.heap.size w w0 := hd0.below _
    clear hsz
    go_wp2_with fail
    refine (HP0 _ hq0).mono ?_
    rintro e w1 ⟨pv0, rfl, hpv0, hb1_⟩
    have hq1 := hq0.trans (hb1_.mono hq0.size)
    have hpi0 := (Own.ints (xs := natsI (partsN (netsL g) s)) hpv0 (by omega)).weak (S' := fun b => w0.heap.size ≤ b) (fun b hb => hpv0.ge b hb)
    obtain ⟨pv0a, pv0c, rfl⟩ := hpv0.isSlice
    by_cases h1 : (partsN (netsL g) s).length = 1
    case pos =>
      have hb3 : (((partsN (netsL g) s).length : Int) == 1) = true := by rw [beq_iff_eq]; omega
      have hb4 : ((partsN (netsL g) s).length == 1) = true := by rw [beq_iff_eq]; omega
      rw [if_pos h1] at hco hck
      have HH1 := Lib.hid h1
      go_wp2_with fail
      refine (HP1 _ hq1).mono ?_
      rintro e w2 ⟨pv1, rfl, hpv1, hb2_⟩
      have hq2 := hq1.trans (hb2_.mono hq1.size)
      have hpi1 := (Own.ints (xs := natsI (partsN (complN (netsL g)) s)) hpv1 (by omega)).weak (S' := fun b => w1.heap.size ≤ b) (fun b hb => hpv1.ge b hb)
      obtain ⟨pv1a, pv1c, rfl⟩ := hpv1.isSlice
      by_cases h2 : (partsN (complN (netsL g)) s).length = 1
      case pos =>
        have hb5 : (((partsN (complN (netsL g)) s).length : Int) == 1) = true := by rw [beq_iff_eq]; omega
        have hb6 : ((partsN (complN (netsL g)) s).length == 1) = true := by rw [beq_iff_eq]; omega
        have hgr := HGR _ hq2 (hprim h1 h2)
        rw [if_pos h2] at hco hck
        subst hck
        have HH2 := Lib.hid h2
        clear h1 h2 HGR hprim
        go_wp2_with fail
        refine hgr.mono ?_
        rintro e wp ⟨pv, rfl, hpv, hbp⟩
        clear hgr
        rw [← hco] at hpv
        have hqp := hq2.trans (hbp.mono hq2.size)
        have hpi := (Own.ints (xs := natsI P) hpv (by omega)).weak (S' := fun b => w2.heap.size ≤ b) (fun b hb => hpv.ge b hb)
        obtain ⟨pva, pvc, rfl⟩ := hpv.isSlice
        obtain ⟨Pl, hPlw, hszp, hPl2⟩ : ∃ Pl, w.heap.size ≤ Pl ∧ Pl ≤ wp.heap.size ∧ SlI (fun b => Pl ≤ b ∧ b < wp.heap.size) wp .u32 (.slice pva P.length pvc) (natsI P) :=
          ⟨w2.heap.size, hq2.size, hbp.size, hpi.low3⟩
        have HCO := Lib.hid hco; clear hco
        have hTp := hTr.below hqp
        have htwo := fun p hp => (hin p hp).2.2.2
        have HALL := Lib.hid hall
        have HSM := Lib.hid hsome
        clear hall hsome HP0 HP1
        have hwzp := hqp.size
        have hTk : ∀ o, OwnX (fun b => X b ∨ (Value.slice none 0 0).ownBlock = some b ∨ b = wp.heap.size) (wp.alloc o) B 126 2 (.slice tva t.length tvc) t := fun o =>
          (hTp.sub (fun b h1 h2 => by rcases h1 with h1 | h1 | h1; exact h1; simp [Value.ownBlock] at h1; omega)).below ((Below.refl wp.heap.size wp).alloc (Nat.le_refl _) o)
        go_wp2
        go_loopw [3, 42] (fun tr i wr => ∃ (k : Nat) (t2 : List PNode) (ks : List Int) (kv : Value), i = .int .i64 k ∧ k ≤ P.length ∧ RowKit.Hid (KidsI (mdT g n) P t t2 ks k) ∧ OwnX (fun b => X b ∨ kv.ownBlock = some b ∨ b = wp.heap.size) wr B 126 2 tr t2 ∧
          (∀ b, tr.ownBlock = some b → (Value.slice tva t.length tvc).ownBlock = some b ∨ wp.heap.size < b) ∧ Own wr wp.heap.size 126 3 (.slice (some ⟨wp.heap.size, 0, none⟩) 1 1) 1 [.int .i64 4, .int .i64 0, kv] ∧ Own wr (wp.heap.size + 1) 2 1 kv k (ks.map (.int .i64)) ∧ KeptBut w wr (Value.slice tva t.length tvc).ownBlock ∧
          SlI (fun b => Pl ≤ b ∧ b < wp.heap.size) wr .u32 (.slice pva P.length pvc) (natsI P)) (fun _ i _ => P.length - (intOf i).toNat)
        case atStart =>
          exact ⟨0, t, [], .slice none 0 0, rfl, Nat.zero_le _, Lib.hid (KidsI.start _ _ _), hTk _, (fun b hb => .inl hb), World.ownsRow_lit (base := wp.heap.size) (e := 126) (size := 3) wp _ 1 (Nat.le_refl _) (by unfold maxLen; omega) rfl, Own.nil _ _ _ _, KeptBut.ofBelow _ (hqp.alloc hqp.size _), hPl2.below ((Below.refl wp.heap.size wp).alloc (Nat.le_refl _) _) (Nat.le_refl _)⟩
        case round =>
          clear hTp hTk hPl2 hpv0 hpi0
          obtain ⟨k, t2, ks, kv, rfl, hk, HI, htr, htl2, hbx, hkd, hkb, hpr⟩ := hrel
          obtain ⟨w5, rfl⟩ : ∃ x : World, x = wr := ⟨_, rfl⟩
          have hml := HI.out.len
          have hkl := HI.out.kids
          have hwz := hkb.2.2.2.1
          have hBw : B ≤ w5.heap.size := Nat.le_trans hB hwz
          have hbl5 : wp.heap.size < w5.heap.size := (hbx.lt wp.heap.size rfl).2
          obtain ⟨kva, kvc, rfl⟩ := hkd.isSlice
          obtain ⟨ta, tc, rfl⟩ := htr.isSlice
          have b0 := (World.ownsRow.cellAt hbx 0 (by omega)).trans (show _ = some (.int .i64 4) from rfl)
          have b1 := (World.ownsRow.cellAt hbx 1 (by omega)).trans (show _ = some (.int .i64 0) from rfl)
          have b2 := (World.ownsRow.cellAt hbx 2 (by omega)).trans (show _ = some (.slice kva k kvc) from rfl)
          by_cases hlt : k < P.length
          case neg =>
            obtain rfl : k = P.length := by omega
            have HC := Lib.hid (show (mdT g (n + 1) s t).getD [] = _ from by rw [HALL.out _ _ (HI.out.done (Nat.le_refl _))]; try rfl); clear HALL HI
            rw [List.take_length] at hml
            have hml2 : t2.length ≤ 1000 := by omega
            clear hsum
            obtain ⟨xs, vs, hcs, hown, hap, hkds, hXu, hXs⟩ := htr
            have HKL := Lib.hid hkl; clear hkl hml
            go_wp2_with (at_builtin; refine wpList_append1m elParts rfl _ _ rfl hown rfl (by first | rfl | simp) rfl rfl (by simp [Value.oneCell']) (by omega) hBw ?_; intro v' w6 hown6 hkept hmv)
            go_ret
            rw [HC.out]
            exact ⟨_, rfl, ownX_snoc (p := ⟨4, 0, ks⟩) (v := .slice kva P.length kvc) hcs hap hkds (fun i hi b hb hx => hXs i hi b hb (.inl hx)) (fun b hb hx => hXu b hb (.inl hx)) (fun b hb => by have := hXw b hb; omega) hown6 (by simp only [HKL.out]; exact hkd.weak (by omega)) (fun i hi b hb he => hXs i hi b hb (.inr (.inl he))) (fun b hb hx => by have := (hkd.lt b hb).1; have := hXw b hx; omega) (fun b hb he => hXu b he (.inr (.inl hb))) hkept (hmv.elim (fun h => .inl h) (fun h => .inr ⟨_, h, by simp⟩)), fun b hb => by
              rcases moved_or hmv (show w5.heap.size ≤ _ by simp) b hb with h | h
              · rcases htl2 b h with h | h
                · exact .inl h
                · exact .inr (by omega)
              · exact .inr (by omega), hkb.then hkept (fun b hb => by
              rcases htl2 b hb with h | h
              · exact .inl h
              · exact .inr (by omega))⟩
          have hPk := hin _ (List.getElem_mem hlt)
          have hPn := htwo _ (List.getElem_mem hlt)
          have hPt := sumP_take hlt
          have hP2 := sub_lt hs hPk.2.2.1
          have HNX := Lib.hid (fun t3 (h : mdT g n P[k] t2 = some t3) => HI.out.next hlt h (mdT_len hg hP2 hPk.1 h))
          have HLN := Lib.hid (fun t3 (h : mdT g n P[k] t2 = some t3) => mdT_len hg hP2 hPk.1 h)
          have HSP := Lib.hid (HSM.out P[k] t2 (List.getElem_mem hlt))
          obtain ⟨pb, po, pcap, hpe, hpc5⟩ := hpr.at_
          have hpe := hpe (by rw [natsI_len]; omega)
          rw [natsI_len] at hpe
          simp only [Value.slice.injEq] at hpe
          obtain ⟨rfl, -, rfl⟩ := hpe
          have hpcell := hpc5 k (by rw [natsI_len]; exact hlt)
          rw [natsI_get] at hpcell
          clear hpc5 HI HALL
          have hT5 : Tab w5 := fun i hi => (World.cell?_of_block (a := ⟨0, i, none⟩) (hkb.2.2.2.2 0 (by omega) (fun e => by have := htg _ e.symm; omega))).trans (hT i hi)
          have hkvl := fun b hb => (hkd.lt b hb)
          have hih := ih P[k] (.slice ta t2.length tc) t2 B w5 S S2 (fun b => X b ∨ (Value.slice kva k kvc).ownBlock = some b ∨ b = wp.heap.size) (by omega) hPk.1 hP2
            (hav.keep (fun b hb => hkb.2.2.2.2 b (hS b hb).1 (fun e => (hS b hb).2 e.symm))) (hov.keep (fun b hb => hkb.2.2.2.2 b (hS2 b hb).1 (fun e => (hS2 b hb).2 e.symm))) htr (by omega) hBw hB0 hT5
            (fun b hb => by rcases hb with hb | hb | hb; have := hXw b hb; omega; exact (hkvl b hb).2; omega)
            (fun b hb => ⟨by have := (hS b hb).1; omega, fun e => by
              rcases htl2 b e with h | h
              · exact (hS b hb).2 h
              · have := (hS b hb).1; omega⟩)
            (fun b hb => ⟨by have := (hS2 b hb).1; omega, fun e => by
              rcases htl2 b e with h | h
              · exact (hS2 b hb).2 h
              · have := (hS2 b hb).1; omega⟩)
          generalize P[k] = p at *
          clear b0 b1 b2
          go_wp2_with fail
          (refine hih.mono ?_)
          rintro e w6 ⟨r, rfl, hr, hloc, hkw⟩
          clear hih
          have hkb6 : KeptBut w w6 (Value.slice tva t.length tvc).ownBlock := hkb.then hkw (fun b hb => by
            rcases htl2 b hb with h | h
            · exact .inl h
            · exact .inr (by omega))
          have hkvt : ∀ b, (Value.slice kva k kvc).ownBlock = some b → (Value.slice ta t2.length tc).ownBlock ≠ some b := by
            obtain ⟨xs, vs, _, _, _, _, hXu, _⟩ := htr
            exact fun b hb he => hXu b he (.inr (.inl hb))
          have hkd6 := Own.kept hkd hkw hkvt
          have hbx6 := Own.kept hbx hkw (fun b hb he => by
            simp [Value.ownBlock] at hb
            rcases htl2 b he with h | h
            · have := htl b h; omega
            · omega)
          have hpr6 := hpr.keep (w' := w6) (fun b hb => hkw.2.2.2.2 b (by omega) (fun e => by
            rcases htl2 b e.symm with h | h
            · have := htl b h; omega
            · omega))
          have hB6 : wp.heap.size + 1 ≤ w6.heap.size := Nat.le_trans hbl5 hkw.2.2.2.1
          obtain ⟨t3, hcb⟩ := HSP.out
          have HX := Lib.hid (HNX.out t3 hcb)
          have hm6 := HLN.out t3 hcb
          rw [hcb] at hr
          simp only [Option.getD_some] at hr
          clear hcb HSP HNX HLN htr
          obtain ⟨ra, rc, rfl⟩ := hr.isSlice
          have b2 := (World.ownsRow.cellAt hbx6 2 (by omega)).trans (show _ = some (.slice kva k kvc) from rfl)
          go_wp2_with (at_builtin; refine wpList_append1b elI64 rfl _ _ rfl hkd6 rfl (by first | rfl | simp) rfl rfl (by omega) hB6 ?_; intro kv' w8 hown8 hkept hmv; obtain ⟨ka8, kc8, rfl⟩ := hown8.isSlice; have hbx8 := Own.kept hbx6 hkept (fun b hb he => by simp [Value.ownBlock] at hb; have := (hkd6.lt b he).1; omega); have b28 := (World.ownsRow.cellAt hbx8 2 (by omega)).trans (show _ = some (.slice kva k kvc) from rfl); have f28 := World.ownsRow.frozenAt hbx8 2)
          have hset : ∀ b, b ≠ wp.heap.size → (w8.setCell ⟨wp.heap.size, 2, none⟩ (.slice ka8 (k + 1) kc8)).heap[b]? = w8.heap[b]? := fun b hb => Below.heap_setCell _ _ _ _ (by simpa using hb)
          have htr8 : OwnX (fun b => X b ∨ (Value.slice ka8 (k + 1) kc8).ownBlock = some b ∨ b = wp.heap.size) (w8.setCell ⟨wp.heap.size, 2, none⟩ (.slice ka8 (k + 1) kc8)) B 126 2 (.slice ra t3.length rc) t3 :=
            (((hr.sub (Y := fun b => X b ∨ (Value.slice kva k kvc).ownBlock = some b ∨ (Value.slice ka8 (k + 1) kc8).ownBlock = some b ∨ b = wp.heap.size) (fun b h1 h2 => by
              rcases h1 with h1 | h1 | h1 | h1
              · exact .inl h1
              · exact .inr (.inl h1)
              · rcases moved_or hmv (show w6.heap.size ≤ _ by simp) b h1 with h | h
                · exact .inr (.inl h)
                · omega
              · exact .inr (.inr h1))).kept hkept (fun b hb => .inr (.inl hb))).kept (KeptBut.set w8 wp.heap.size 2 _) (fun b hb => .inr (.inr (.inr (by simp at hb; omega))))).sub (fun b h1 _ => by
              rcases h1 with h1 | h1 | h1
              · exact .inl h1
              · exact .inr (.inr (.inl h1))
              · exact .inr (.inr (.inr h1)))
          go_roundw
          case rel => exact ⟨k + 1, t3, _, .slice ka8 (k + 1) kc8, by go_num, by omega, HX, htr8, (fun b hb => by
              rcases hloc b hb with h | h
              · exact htl2 b h
              · exact .inr (by omega)), hbx8.stored 2 _, by rw [List.map_append]; exact hown8.keep (fun b hb => hset b (by have := (hown8.lt b hb).1; omega)), (hkb6.then hkept (fun b hb => .inr (by have := (hkd6.lt b hb).1; omega))).then (KeptBut.set w8 wp.heap.size 2 _) (fun b hb => .inr (by simp at hb; omega)), (hpr6.keep (fun b hb => hkept.2.2.2.2 b (by omega) (fun e => by have := (hkd6.lt b e.symm).1; omega))).keep (fun b hb => hset b (by omega))⟩
          case measure => simp [intOf]; omega
      case neg =>
        have hb5 : (((partsN (complN (netsL g)) s).length : Int) == 1) = false := by rw [beq_eq_false_iff_ne]; omega
        have hb6 : ((partsN (complN (netsL g)) s).length == 1) = false := by rw [beq_eq_false_iff_ne]; omega
        rw [if_neg h2] at hco hck
        subst hck
        have HH2 := Lib.hid h2
        clear h1 h2 HGR hprim
        obtain ⟨wp, rfl⟩ : ∃ x : World, x = w2 := ⟨_, rfl⟩
        obtain ⟨pva, rfl⟩ : ∃ x, x = pv1a := ⟨_, rfl⟩
        obtain ⟨pvc, rfl⟩ : ∃ x, x = pv1c := ⟨_, rfl⟩
        rw [← hco] at hpi1 ⊢
        rw [← hco] at hb5 hb6
        have hqp := hq2
        obtain ⟨Pl, hPlw, hszp, hPl2⟩ : ∃ Pl, w.heap.size ≤ Pl ∧ Pl ≤ wp.heap.size ∧ SlI (fun b => Pl ≤ b ∧ b < wp.heap.size) wp .u32 (.slice pva P.length pvc) (natsI P) :=
          ⟨w1.heap.size, hq1.size, hb2_.size, hpi1.low3⟩
        have HCO := Lib.hid hco; clear hco
        have hTp := hTr.below hqp
        have htwo := fun p hp => (hin p hp).2.2.2
        have HALL := Lib.hid hall
        have HSM := Lib.hid hsome
        clear hall hsome HP0 HP1
        have hwzp := hqp.size
        have hTk : ∀ o, OwnX (fun b => X b ∨ (Value.slice none 0 0).ownBlock = some b ∨ b = wp.heap.size) (wp.alloc o) B 126 2 (.slice tva t.length tvc) t := fun o =>
          (hTp.sub (fun b h1 h2 => by rcases h1 with h1 | h1 | h1; exact h1; simp [Value.ownBlock] at h1; omega)).below ((Below.refl wp.heap.size wp).alloc (Nat.le_refl _) o)
        go_wp2
        go_loopw [3, 42] (fun tr i wr => ∃ (k : Nat) (t2 : List PNode) (ks : List Int) (kv : Value), i = .int .i64 k ∧ k ≤ P.length ∧ RowKit.Hid (KidsI (mdT g n) P t t2 ks k) ∧ OwnX (fun b => X b ∨ kv.ownBlock = some b ∨ b = wp.heap.size) wr B 126 2 tr t2 ∧
          (∀ b, tr.ownBlock = some b → (Value.slice tva t.length tvc).ownBlock = some b ∨ wp.heap.size < b) ∧ Own wr wp.heap.size 126 3 (.slice (some ⟨wp.heap.size, 0, none⟩) 1 1) 1 [.int .i64 3, .int .i64 0, kv] ∧ Own wr (wp.heap.size + 1) 2 1 kv k (ks.map (.int .i64)) ∧ KeptBut w wr (Value.slice tva t.length tvc).ownBlock ∧
          SlI (fun b => Pl ≤ b ∧ b < wp.heap.size) wr .u32 (.slice pva P.length pvc) (natsI P)) (fun _ i _ => P.length - (intOf i).toNat)
        case atStart =>
          exact ⟨0, t, [], .slice none 0 0, rfl, Nat.zero_le _, Lib.hid (KidsI.start _ _ _), hTk _, (fun b hb => .inl hb), World.ownsRow_lit (base := wp.heap.size) (e := 126) (size := 3) wp _ 1 (Nat.le_refl _) (by unfold maxLen; omega) rfl, Own.nil _ _ _ _, KeptBut.ofBelow _ (hqp.alloc hqp.size _), hPl2.below ((Below.refl wp.heap.size wp).alloc (Nat.le_refl _) _) (Nat.le_refl _)⟩
        case round =>
          clear hTp hTk hPl2 hpv0 hpi0
          obtain ⟨k, t2, ks, kv, rfl, hk, HI, htr, htl2, hbx, hkd, hkb, hpr⟩ := hrel
          obtain ⟨w5, rfl⟩ : ∃ x : World, x = wr := ⟨_, rfl⟩
          have hml := HI.out.len
          have hkl := HI.out.kids
          have hwz := hkb.2.2.2.1
          have hBw : B ≤ w5.heap.size := Nat.le_trans hB hwz
          have hbl5 : wp.heap.size < w5.heap.size := (hbx.lt wp.heap.size rfl).2
          obtain ⟨kva, kvc, rfl⟩ := hkd.isSlice
          obtain ⟨ta, tc, rfl⟩ := htr.isSlice
          have b0 := (World.ownsRow.cellAt hbx 0 (by omega)).trans (show _ = some (.int .i64 3) from rfl)
          have b1 := (World.ownsRow.cellAt hbx 1 (by omega)).trans (show _ = some (.int .i64 0) from rfl)
          have b2 := (World.ownsRow.cellAt hbx 2 (by omega)).trans (show _ = some (.slice kva k kvc) from rfl)
          by_cases hlt : k < P.length
          case neg =>
            obtain rfl : k = P.length := by omega
            have HC := Lib.hid (show (mdT g (n + 1) s t).getD [] = _ from by rw [HALL.out _ _ (HI.out.done (Nat.le_refl _))]; try rfl); clear HALL HI
            rw [List.take_length] at hml
            have hml2 : t2.length ≤ 1000 := by omega
            clear hsum
            obtain ⟨xs, vs, hcs, hown, hap, hkds, hXu, hXs⟩ := htr
            have HKL := Lib.hid hkl; clear hkl hml
            go_wp2_with (at_builtin; refine wpList_append1m elParts rfl _ _ rfl hown rfl (by first | rfl | simp) rfl rfl (by simp [Value.oneCell']) (by omega) hBw ?_; intro v' w6 hown6 hkept hmv)
            go_ret
            rw [HC.out]
            exact ⟨_, rfl, ownX_snoc (p := ⟨3, 0, ks⟩) (v := .slice kva P.length kvc) hcs hap hkds (fun i hi b hb hx => hXs i hi b hb (.inl hx)) (fun b hb hx => hXu b hb (.inl hx)) (fun b hb => by have := hXw b hb; omega) hown6 (by simp only [HKL.out]; exact hkd.weak (by omega)) (fun i hi b hb he => hXs i hi b hb (.inr (.inl he))) (fun b hb hx => by have := (hkd.lt b hb).1; have := hXw b hx; omega) (fun b hb he => hXu b he (.inr (.inl hb))) hkept (hmv.elim (fun h => .inl h) (fun h => .inr ⟨_, h, by simp⟩)), fun b hb => by
              rcases moved_or hmv (show w5.heap.size ≤ _ by simp) b hb with h | h
              · rcases htl2 b h with h | h
                · exact .inl h
                · exact .inr (by omega)
              · exact .inr (by omega), hkb.then hkept (fun b hb => by
              rcases htl2 b hb with h | h
              · exact .inl h
              · exact .inr (by omega))⟩
          have hPk := hin _ (List.getElem_mem hlt)
          have hPn := htwo _ (List.getElem_mem hlt)
          have hPt := sumP_take hlt
          have hP2 := sub_lt hs hPk.2.2.1
          have HNX := Lib.hid (fun t3 (h : mdT g n P[k] t2 = some t3) => HI.out.next hlt h (mdT_len hg hP2 hPk.1 h))
          have HLN := Lib.hid (fun t3 (h : mdT g n P[k] t2 = some t3) => mdT_len hg hP2 hPk.1 h)
          have HSP := Lib.hid (HSM.out P[k] t2 (List.getElem_mem hlt))
          obtain ⟨pb, po, pcap, hpe, hpc5⟩ := hpr.at_
          have hpe := hpe (by rw [natsI_len]; omega)
          rw [natsI_len] at hpe
          simp only [Value.slice.injEq] at hpe
          obtain ⟨rfl, -, rfl⟩ := hpe
          have hpcell := hpc5 k (by rw [natsI_len]; exact hlt)
          rw [natsI_get] at hpcell
          clear hpc5 HI HALL
          have hT5 : Tab w5 := fun i hi => (World.cell?_of_block (a := ⟨0, i, none⟩) (hkb.2.2.2.2 0 (by omega) (fun e => by have := htg _ e.symm; omega))).trans (hT i hi)
          have hkvl := fun b hb => (hkd.lt b hb)
          have hih := ih P[k] (.slice ta t2.length tc) t2 B w5 S S2 (fun b => X b ∨ (Value.slice kva k kvc).ownBlock = some b ∨ b = wp.heap.size) (by omega) hPk.1 hP2
            (hav.keep (fun b hb => hkb.2.2.2.2 b (hS b hb).1 (fun e => (hS b hb).2 e.symm))) (hov.keep (fun b hb => hkb.2.2.2.2 b (hS2 b hb).1 (fun e => (hS2 b hb).2 e.symm))) htr (by omega) hBw hB0 hT5
            (fun b hb => by rcases hb with hb | hb | hb; have := hXw b hb; omega; exact (hkvl b hb).2; omega)
            (fun b hb => ⟨by have := (hS b hb).1; omega, fun e => by
              rcases htl2 b e with h | h
              · exact (hS b hb).2 h
              · have := (hS b hb).1; omega⟩)
            (fun b hb => ⟨by have := (hS2 b hb).1; omega, fun e => by
              rcases htl2 b e with h | h
              · exact (hS2 b hb).2 h
              · have := (hS2 b hb).1; omega⟩)
          generalize P[k] = p at *
          clear b0 b1 b2
          go_wp2_with fail
          (refine hih.mono ?_)
          rintro e w6 ⟨r, rfl, hr, hloc, hkw⟩
          clear hih
          have hkb6 : KeptBut w w6 (Value.slice tva t.length tvc).ownBlock := hkb.then hkw (fun b hb => by
            rcases htl2 b hb with h | h
            · exact .inl h
            · exact .inr (by omega))
          have hkvt : ∀ b, (Value.slice kva k kvc).ownBlock = some b → (Value.slice ta t2.length tc).ownBlock ≠ some b := by
            obtain ⟨xs, vs, _, _, _, _, hXu, _⟩ := htr
            exact fun b hb he => hXu b he (.inr (.inl hb))
          have hkd6 := Own.kept hkd hkw hkvt
          have hbx6 := Own.kept hbx hkw (fun b hb he => by
            simp [Value.ownBlock] at hb
            rcases htl2 b he with h | h
            · have := htl b h; omega
            · omega)
          have hpr6 := hpr.keep (w' := w6) (fun b hb => hkw.2.2.2.2 b (by omega) (fun e => by
            rcases htl2 b e.symm with h | h
            · have := htl b h; omega
            · omega))
          have hB6 : wp.heap.size + 1 ≤ w6.heap.size := Nat.le_trans hbl5 hkw.2.2.2.1
          obtain ⟨t3, hcb⟩ := HSP.out
          have HX := Lib.hid (HNX.out t3 hcb)
          have hm6 := HLN.out t3 hcb
          rw [hcb] at hr
          simp only [Option.getD_some] at hr
          clear hcb HSP HNX HLN htr
          obtain ⟨ra, rc, rfl⟩ := hr.isSlice
          have b2 := (World.ownsRow.cellAt hbx6 2 (by omega)).trans (show _ = some (.slice kva k kvc) from rfl)
          go_wp2_with (at_builtin; refine wpList_append1b elI64 rfl _ _ rfl hkd6 rfl (by first | rfl | simp) rfl rfl (by omega) hB6 ?_; intro kv' w8 hown8 hkept hmv; obtain ⟨ka8, kc8, rfl⟩ := hown8.isSlice; have hbx8 := Own.kept hbx6 hkept (fun b hb he => by simp [Value.ownBlock] at hb; have := (hkd6.lt b he).1; omega); have b28 := (World.ownsRow.cellAt hbx8 2 (by omega)).trans (show _ = some (.slice kva k kvc) from rfl); have f28 := World.ownsRow.frozenAt hbx8 2)
          have hset : ∀ b, b ≠ wp.heap.size → (w8.setCell ⟨wp.heap.size, 2, none⟩ (.slice ka8 (k + 1) kc8)).heap[b]? = w8.heap[b]? := fun b hb => Below.heap_setCell _ _ _ _ (by simpa using hb)
          have htr8 : OwnX (fun b => X b ∨ (Value.slice ka8 (k + 1) kc8).ownBlock = some b ∨ b = wp.heap.size) (w8.setCell ⟨wp.heap.size, 2, none⟩ (.slice ka8 (k + 1) kc8)) B 126 2 (.slice ra t3.length rc) t3 :=
            (((hr.sub (Y := fun b => X b ∨ (Value.slice kva k kvc).ownBlock = some b ∨ (Value.slice ka8 (k + 1) kc8).ownBlock = some b ∨ b = wp.heap.size) (fun b h1 h2 => by
              rcases h1 with h1 | h1 | h1 | h1
              · exact .inl h1
              · exact .inr (.inl h1)
              · rcases moved_or hmv (show w6.heap.size ≤ _ by simp) b h1 with h | h
                · exact .inr (.inl h)
                · omega
              · exact .inr (.inr h1))).kept hkept (fun b hb => .inr (.inl hb))).kept (KeptBut.set w8 wp.heap.size 2 _) (fun b hb => .inr (.inr (.inr (by simp at hb; omega))))).sub (fun b h1 _ => by
              rcases h1 with h1 | h1 | h1
              · exact .inl h1
              · exact .inr (.inr (.inl h1))
              · exact .inr (.inr (.inr h1)))
          go_roundw
          case rel => exact ⟨k + 1, t3, _, .slice ka8 (k + 1) kc8, by go_num, by omega, HX, htr8, (fun b hb => by
              rcases hloc b hb with h | h
              · exact htl2 b h
              · exact .inr (by omega)), hbx8.stored 2 _, by rw [List.map_append]; exact hown8.keep (fun b hb => hset b (by have := (hown8.lt b hb).1; omega)), (hkb6.then hkept (fun b hb => .inr (by have := (hkd6.lt b hb).1; omega))).then (KeptBut.set w8 wp.heap.size 2 _) (fun b hb => .inr (by simp at hb; omega)), (hpr6.keep (fun b hb => hkept.2.2.2.2 b (by omega) (fun e => by have := (hkd6.lt b e.symm).1; omega))).keep (fun b hb => hset b (by omega))⟩
          case measure => simp [intOf]; omega
    case neg =>
      have hb3 : (((partsN (netsL g) s).length : Int) == 1) = false := by rw [beq_eq_false_iff_ne]; omega
      have hb4 : ((partsN (netsL g) s).length == 1) = false := by rw [beq_eq_false_iff_ne]; omega
      rw [if_neg h1] at hco hck
      subst hck
      have HH1 := Lib.hid h1; clear h1 HGR hprim
      obtain ⟨wp, rfl⟩ : ∃ x : World, x = w1 := ⟨_, rfl⟩
      obtain ⟨pva, rfl⟩ : ∃ x, x = pv0a := ⟨_, rfl⟩
      obtain ⟨pvc, rfl⟩ : ∃ x, x = pv0c := ⟨_, rfl⟩
      rw [← hco] at hpi0 ⊢
      rw [← hco] at hb3 hb4
      have hqp := hq1
      obtain ⟨Pl, hPlw, hszp, hPl2⟩ : ∃ Pl, w.heap.size ≤ Pl ∧ Pl ≤ wp.heap.size ∧ SlI (fun b => Pl ≤ b ∧ b < wp.heap.size) wp .u32 (.slice pva P.length pvc) (natsI P) :=
        ⟨w0.heap.size, hq0.size, hb1_.size, hpi0.low3⟩
      have HCO := Lib.hid hco; clear hco
      have hTp := hTr.below hqp
      have htwo := fun p hp => (hin p hp).2.2.2
      have HALL := Lib.hid hall
      have HSM := Lib.hid hsome
      clear hall hsome HP0 HP1
      have hwzp := hqp.size
      have hTk : ∀ o, OwnX (fun b => X b ∨ (Value.slice none 0 0).ownBlock = some b ∨ b = wp.heap.size) (wp.alloc o) B 126 2 (.slice tva t.length tvc) t := fun o =>
        (hTp.sub (fun b h1 h2 => by rcases h1 with h1 | h1 | h1; exact h1; simp [Value.ownBlock] at h1; omega)).below ((Below.refl wp.heap.size wp).alloc (Nat.le_refl _) o)
      go_wp2
      go_loopw [3, 42] (fun tr i wr => ∃ (k : Nat) (t2 : List PNode) (ks : List Int) (kv : Value), i = .int .i64 k ∧ k ≤ P.length ∧ RowKit.Hid (KidsI (mdT g n) P t t2 ks k) ∧ OwnX (fun b => X b ∨ kv.ownBlock = some b ∨ b = wp.heap.size) wr B 126 2 tr t2 ∧
        (∀ b, tr.ownBlock = some b → (Value.slice tva t.length tvc).ownBlock = some b ∨ wp.heap.size < b) ∧ Own wr wp.heap.size 126 3 (.slice (some ⟨wp.heap.size, 0, none⟩) 1 1) 1 [.int .i64 2, .int .i64 0, kv] ∧ Own wr (wp.heap.size + 1) 2 1 kv k (ks.map (.int .i64)) ∧ KeptBut w wr (Value.slice tva t.length tvc).ownBlock ∧
        SlI (fun b => Pl ≤ b ∧ b < wp.heap.size) wr .u32 (.slice pva P.length pvc) (natsI P)) (fun _ i _ => P.length - (intOf i).toNat)
      case atStart =>
        exact ⟨0, t, [], .slice none 0 0, rfl, Nat.zero_le _, Lib.hid (KidsI.start _ _ _), hTk _, (fun b hb => .inl hb), World.ownsRow_lit (base := wp.heap.size) (e := 126) (size := 3) wp _ 1 (Nat.le_refl _) (by unfold maxLen; omega) rfl, Own.nil _ _ _ _, KeptBut.ofBelow _ (hqp.alloc hqp.size _), hPl2.below ((Below.refl wp.heap.size wp).alloc (Nat.le_refl _) _) (Nat.le_refl _)⟩
      case round =>
        clear hTp hTk hPl2 hpv0 hpi0
        obtain ⟨k, t2, ks, kv, rfl, hk, HI, htr, htl2, hbx, hkd, hkb, hpr⟩ := hrel
        obtain ⟨w5, rfl⟩ : ∃ x : World, x = wr := ⟨_, rfl⟩
        have hml := HI.out.len
        have hkl := HI.out.kids
        have hwz := hkb.2.2.2.1
        have hBw : B ≤ w5.heap.size := Nat.le_trans hB hwz
        have hbl5 : wp.heap.size < w5.heap.size := (hbx.lt wp.heap.size rfl).2
        obtain ⟨kva, kvc, rfl⟩ := hkd.isSlice
        obtain ⟨ta, tc, rfl⟩ := htr.isSlice
        have b0 := (World.ownsRow.cellAt hbx 0 (by omega)).trans (show _ = some (.int .i64 2) from rfl)
        have b1 := (World.ownsRow.cellAt hbx 1 (by omega)).trans (show _ = some (.int .i64 0) from rfl)
        have b2 := (World.ownsRow.cellAt hbx 2 (by omega)).trans (show _ = some (.slice kva k kvc) from rfl)
        by_cases hlt : k < P.length
        case neg =>
          obtain rfl : k = P.length := by omega
          have HC := Lib.hid (show (mdT g (n + 1) s t).getD [] = _ from by rw [HALL.out _ _ (HI.out.done (Nat.le_refl _))]; try rfl); clear HALL HI
          rw [List.take_length] at hml
          have hml2 : t2.length ≤ 1000 := by omega
          clear hsum
          obtain ⟨xs, vs, hcs, hown, hap, hkds, hXu, hXs⟩ := htr
          have HKL := Lib.hid hkl; clear hkl hml
          go_wp2_with (at_builtin; refine wpList_append1m elParts rfl _ _ rfl hown rfl (by first | rfl | simp) rfl rfl (by simp [Value.oneCell']) (by omega) hBw ?_; intro v' w6 hown6 hkept hmv)
          go_ret
          rw [HC.out]
          exact ⟨_, rfl, ownX_snoc (p := ⟨2, 0, ks⟩) (v := .slice kva P.length kvc) hcs hap hkds (fun i hi b hb hx => hXs i hi b hb (.inl hx)) (fun b hb hx => hXu b hb (.inl hx)) (fun b hb => by have := hXw b hb; omega) hown6 (by simp only [HKL.out]; exact hkd.weak (by omega)) (fun i hi b hb he => hXs i hi b hb (.inr (.inl he))) (fun b hb hx => by have := (hkd.lt b hb).1; have := hXw b hx; omega) (fun b hb he => hXu b he (.inr (.inl hb))) hkept (hmv.elim (fun h => .inl h) (fun h => .inr ⟨_, h, by simp⟩)), fun b hb => by
            rcases moved_or hmv (show w5.heap.size ≤ _ by simp) b hb with h | h
            · rcases htl2 b h with h | h
              · exact .inl h
              · exact .inr (by omega)
            · exact .inr (by omega), hkb.then hkept (fun b hb => by
            rcases htl2 b hb with h | h
            · exact .inl h
            · exact .inr (by omega))⟩
        have hPk := hin _ (List.getElem_mem hlt)
        have hPn := htwo _ (List.getElem_mem hlt)
        have hPt := sumP_take hlt
        have hP2 := sub_lt hs hPk.2.2.1
        have HNX := Lib.hid (fun t3 (h : mdT g n P[k] t2 = some t3) => HI.out.next hlt h (mdT_len hg hP2 hPk.1 h))
        have HLN := Lib.hid (fun t3 (h : mdT g n P[k] t2 = some t3) => mdT_len hg hP2 hPk.1 h)
        have HSP := Lib.hid (HSM.out P[k] t2 (List.getElem_mem hlt))
        obtain ⟨pb, po, pcap, hpe, hpc5⟩ := hpr.at_
        have hpe := hpe (by rw [natsI_len]; omega)
        rw [natsI_len] at hpe
        simp only [Value.slice.injEq] at hpe
        obtain ⟨rfl, -, rfl⟩ := hpe
        have hpcell := hpc5 k (by rw [natsI_len]; exact hlt)
        rw [natsI_get] at hpcell
        clear hpc5 HI HALL
        have hT5 : Tab w5 := fun i hi => (World.cell?_of_block (a := ⟨0, i, none⟩) (hkb.2.2.2.2 0 (by omega) (fun e => by have := htg _ e.symm; omega))).trans (hT i hi)
        have hkvl := fun b hb => (hkd.lt b hb)
        have hih := ih P[k] (.slice ta t2.length tc) t2 B w5 S S2 (fun b => X b ∨ (Value.slice kva k kvc).ownBlock = some b ∨ b = wp.heap.size) (by omega) hPk.1 hP2
          (hav.keep (fun b hb => hkb.2.2.2.2 b (hS b hb).1 (fun e => (hS b hb).2 e.symm))) (hov.keep (fun b hb => hkb.2.2.2.2 b (hS2 b hb).1 (fun e => (hS2 b hb).2 e.symm))) htr (by omega) hBw hB0 hT5
          (fun b hb => by rcases hb with hb | hb | hb; have := hXw b hb; omega; exact (hkvl b hb).2; omega)
          (fun b hb => ⟨by have := (hS b hb).1; omega, fun e => by
            rcases htl2 b e with h | h
            · exact (hS b hb).2 h
            · have := (hS b hb).1; omega⟩)
          (fun b hb => ⟨by have := (hS2 b hb).1; omega, fun e => by
            rcases htl2 b e with h | h
            · exact (hS2 b hb).2 h
            · have := (hS2 b hb).1; omega⟩)
        generalize P[k] = p at *
        clear b0 b1 b2
        go_wp2_with fail
        (refine hih.mono ?_)
        rintro e w6 ⟨r, rfl, hr, hloc, hkw⟩
        clear hih
        have hkb6 : KeptBut w w6 (Value.slice tva t.length tvc).ownBlock := hkb.then hkw (fun b hb => by
          rcases htl2 b hb with h | h
          · exact .inl h
          · exact .inr (by omega))
        have hkvt : ∀ b, (Value.slice kva k kvc).ownBlock = some b → (Value.slice ta t2.length tc).ownBlock ≠ some b := by
          obtain ⟨xs, vs, _, _, _, _, hXu, _⟩ := htr
          exact fun b hb he => hXu b he (.inr (.inl hb))
        have hkd6 := Own.kept hkd hkw hkvt
        have hbx6 := Own.kept hbx hkw (fun b hb he => by
          simp [Value.ownBlock] at hb
          rcases htl2 b he with h | h
          · have := htl b h; omega
          · omega)
        have hpr6 := hpr.keep (w' := w6) (fun b hb => hkw.2.2.2.2 b (by omega) (fun e => by
          rcases htl2 b e.symm with h | h
          · have := htl b h; omega
          · omega))
        have hB6 : wp.heap.size + 1 ≤ w6.heap.size := Nat.le_trans hbl5 hkw.2.2.2.1
        obtain ⟨t3, hcb⟩ := HSP.out
        have HX := Lib.hid (HNX.out t3 hcb)
        have hm6 := HLN.out t3 hcb
        rw [hcb] at hr
        simp only [Option.getD_some] at hr
        clear hcb HSP HNX HLN htr
        obtain ⟨ra, rc, rfl⟩ := hr.isSlice
        have b2 := (World.ownsRow.cellAt hbx6 2 (by omega)).trans (show _ = some (.slice kva k kvc) from rfl)
        go_wp2_with (at_builtin; refine wpList_append1b elI64 rfl _ _ rfl hkd6 rfl (by first | rfl | simp) rfl rfl (by omega) hB6 ?_; intro kv' w8 hown8 hkept hmv; obtain ⟨ka8, kc8, rfl⟩ := hown8.isSlice; have hbx8 := Own.kept hbx6 hkept (fun b hb he => by simp [Value.ownBlock] at hb; have := (hkd6.lt b he).1; omega); have b28 := (World.ownsRow.cellAt hbx8 2 (by omega)).trans (show _ = some (.slice kva k kvc) from rfl); have f28 := World.ownsRow.frozenAt hbx8 2)
        have hset : ∀ b, b ≠ wp.heap.size → (w8.setCell ⟨wp.heap.size, 2, none⟩ (.slice ka8 (k + 1) kc8)).heap[b]? = w8.heap[b]? := fun b hb => Below.heap_setCell _ _ _ _ (by simpa using hb)
        have htr8 : OwnX (fun b => X b ∨ (Value.slice ka8 (k + 1) kc8).ownBlock = some b ∨ b = wp.heap.size) (w8.setCell ⟨wp.heap.size, 2, none⟩ (.slice ka8 (k + 1) kc8)) B 126 2 (.slice ra t3.length rc) t3 :=
          (((hr.sub (Y := fun b => X b ∨ (Value.slice kva k kvc).ownBlock = some b ∨ (Value.slice ka8 (k + 1) kc8).ownBlock = some b ∨ b = wp.heap.size) (fun b h1 h2 => by
            rcases h1 with h1 | h1 | h1 | h1
            · exact .inl h1
            · exact .inr (.inl h1)
            · rcases moved_or hmv (show w6.heap.size ≤ _ by simp) b h1 with h | h
              · exact .inr (.inl h)
              · omega
            · exact .inr (.inr h1))).kept hkept (fun b hb => .inr (.inl hb))).kept (KeptBut.set w8 wp.heap.size 2 _) (fun b hb => .inr (.inr (.inr (by simp at hb; omega))))).sub (fun b h1 _ => by
            rcases h1 with h1 | h1 | h1
            · exact .inl h1
            · exact .inr (.inr (.inl h1))
            · exact .inr (.inr (.inr h1)))
        go_roundw
        case rel => exact ⟨k + 1, t3, _, .slice ka8 (k + 1) kc8, by go_num, by omega, HX, htr8, (fun b hb => by
            rcases hloc b hb with h | h
            · exact htl2 b h
            · exact .inr (by omega)), hbx8.stored 2 _, by rw [List.map_append]; exact hown8.keep (fun b hb => hset b (by have := (hown8.lt b hb).1; omega)), (hkb6.then hkept (fun b hb => .inr (by have := (hkd6.lt b hb).1; omega))).then (KeptBut.set w8 wp.heap.size 2 _) (fun b hb => .inr (by simp at hb; omega)), (hpr6.keep (fun b hb => hkept.2.2.2.2 b (by omega) (fun e => by have := (hkd6.lt b e.symm).1; omega))).keep (fun b hb => hset b (by omega))⟩
        case measure => simp [intOf]; omega
end Go.Proofs.YthpbeiihlembnaaDoor
