/- ModularTree: the reference's search. -/
import Derived.Test.YthpbeiihlembnaaDoorMdG
import Derived.Test.YthpbeiihlembnaaDoorCoU
namespace Go.Proofs.YthpbeiihlembnaaDoor
open Go.RowKit
def TreeM (EO EI : TypeId) (X : Nat → Prop) (t' : List PNode) (w : World) (tv : Value) (B : Nat) (e : Ending) (w' : World) : Prop :=
  ∃ u, e = .returned u ∧ OwnX X w' B EO EI u t' ∧ (∀ b, u.ownBlock = some b → tv.ownBlock = some b ∨ w.heap.size ≤ b) ∧ KeptBut w w' tv.ownBlock
set_option maxRecDepth 100000 in
set_option maxHeartbeats 16000000 in
theorem l17Tree_t {gv : Value} {g : List (List Int)} (hg : GOk g) : ∀ (n s : Nat) (u tv : Value) (t : List PNode) (B : Nat) (w : World) (S S' X : Nat → Prop), popN s ≤ n → 0 < popN s → s < 2 ^ g.length → SlR S w gv g → SlI S' w .i64 u (bitsI s) → OwnX X w B 126 2 tv t → t.length + 2 * popN s ≤ 1000 → B ≤ w.heap.size → (∀ b, X b → b < w.heap.size) →
    (∀ b, S b → b < w.heap.size ∧ tv.ownBlock ≠ some b) → (∀ b, S' b → b < w.heap.size ∧ tv.ownBlock ≠ some b) →
    Calls Tryd.prog 124 #[.agg #[gv], u, tv] w (TreeM 126 2 X ((mdT g n s t).getD []) w tv B) := by
  intro n
  induction n with
  | zero => intro s u tv t B w S S' X h1 h2; omega
  | succ n ih =>
    intro s u tv t B w S S' X hpn hp0 hs hv hu hT hm hB hXw hS hS'
    have h16 := hg.hi
    have hg2 := hg
    have hs32 : s < 4294967296 := Nat.lt_of_lt_of_le hs (by have := pow_le16 h16; omega)
    have hs0 : s ≠ 0 := fun e => by rw [e] at hp0; simp [popN, bitsN_zero] at hp0
    have hq0 : Below w.heap.size w (w.alloc (.cells #[gv] 29)) := (Below.refl _ _).alloc (Nat.le_refl _) _
    have htl := fun b hb => (hT.lt b hb).2
    obtain ⟨ga, gc, rfl⟩ := hv.slice
    obtain ⟨tva, tvc, rfl⟩ := hT.isSlice
    have hbl := bitsI_lenN s
    have hb32 := bitsI_len s
    obtain ⟨ub, uo, ucap, hue, huc0⟩ := hu.at_
    obtain ⟨ua, uc, rfl⟩ := hu.slice
    have hpb : popN s = (bitsN s).length := rfl
    have hx0 : ∀ h : 0 < (bitsI s).length, (bitsI s)[0]'h = (Lib.ctz 32 s : Nat) := fun h => by
      have e := bitsI_step hs0 hs32
      simp [e]
    rw [hbl] at hue ⊢
    have HPA := fun (w1 : World) (hb : Below w.heap.size w w1) (t : Bool) => l16Parts_any (t := t) hg (hv.below hb (Nat.le_refl _)) (hu.below hb (Nat.le_refl _)) hs
    rw [hbl] at HPA
    have HBL := Lib.hid hbl
    by_cases hp1 : popN s = 1
    case pos =>
      have hb1 : (((bitsN s).length : Int) == 1) = true := by rw [beq_iff_eq]; omega
      have hb2 : ((bitsN s).length == 1) = true := by rw [beq_iff_eq]; omega
      have HC := Lib.hid (show (mdT g (n + 1) s t).getD [] = t ++ [⟨1, (bitsI s)[0]'(by omega), []⟩] by rw [mdT_leaf hp1, hx0]; rfl)
      have hcell := huc0 0 (by omega)
      have hue2 := hue (by omega)
      simp only [Value.slice.injEq, Nat.add_zero] at hue2 hcell
      obtain ⟨rfl, -, rfl⟩ := hue2
      generalize (bitsI s)[0] = x at hcell HC
      have hcell1 := (hq0.cell (p := ⟨ub, uo, none⟩) (cell_lt hcell)).trans hcell
      clear hbl hue huc0 HPA ih hx0
      obtain ⟨xs, vs, hcs, hown, hap, hkd, hXu, hXs⟩ := hT.below hq0
      go_enter Tryd.func124, Tryd.ntmps124
      go_wp2_with (at_builtin; refine wpList_append1m elParts rfl _ _ rfl hown rfl (by first | rfl | simp) rfl rfl (by simp [Value.oneCell']) (by omega) (by simp; omega) ?_; intro v' w2 hown1 hkept hmv)
      go_ret
      rw [HC.out]
      exact ⟨_, rfl, ownX_snoc (p := ⟨1, x, []⟩) (v := .slice none 0 0) hcs hap hkd hXs hXu (fun b hb => by have := hXw b hb; simp; omega) hown1 (Own.nil _ _ _ _) (fun i hi b _ h => by simp [Value.ownBlock] at h) (fun b h => by simp [Value.ownBlock] at h) (fun b h => by simp [Value.ownBlock] at h) hkept (hmv.elim (fun h => .inl h) (fun h => .inr ⟨_, h, by simp⟩)), moved_or hmv (by first | (simp; done) | (simp; omega)), (KeptBut.ofBelow _ hq0).then hkept (fun b hb => .inl hb)⟩
    have hb1 : (((bitsN s).length : Int) == 1) = false := by rw [beq_eq_false_iff_ne]; omega
    have hb2 : ((bitsN s).length == 1) = false := by rw [beq_eq_false_iff_ne]; omega
    have hpl0 := partsN_len (netsL g) s
    have hok := mdParts_ok hg hs (by omega)
    have hin := fun x (hx : x ∈ mdParts g s) => hok.in_ x hx
    have hsum := hok.sum
    have hpl := hok.len
    have hP2 := hok.two
    have hall := fun t2 ks => mdT_kids (g := g) (n := n) (t := t) (t2 := t2) (ks := ks) hp1
    have hck : mdKind g s = if (partsN (netsL g) s).length = 1 then if (partsN (complN (netsL g)) s).length = 1 then 4 else 3 else 2 := rfl
    have hprim := primeS_of hg hs (by omega)
    have hsome := fun (p : Nat) (t2 : List PNode) (h : p ∈ mdParts g s) => mdT_some (n := n) hg t2 (sub_lt hs (hin p h).2.2.1) (hin p h).1 (by have := (hin p h).2.2.2; omega)
    generalize mdKind g s = ck at hall hck
    clear hok
    have hadf : adjN (netsL g) false = netsL g := by simp [adjN]
    have hadt : adjN (netsL g) true = complN (netsL g) := by simp [adjN]
    have HP0 := fun w1 hb => HPA w1 hb false
    have HP1 := fun w1 hb => HPA w1 hb true
    rw [hadf] at HP0
    rw [hadt] at HP1
    clear HPA hadf hadt hx0
    have hco : mdParts g s = if (partsN (netsL g) s).length = 1 then if (partsN (complN (netsL g)) s).length = 1 then grtN g s else partsN (complN (netsL g)) s else partsN (netsL g) s := rfl
    have HGR := fun (w1 : World) (hb : Below w.heap.size w w1) (hp : PrimeS g s) => l17Greatest_any hg hp (hv.below hb (Nat.le_refl _)) (hu.below hb (Nat.le_refl _))
    rw [hbl] at HGR
    have c3 : (w.alloc (.cells #[.slice ga g.length gc] 29)).cell? ⟨w.heap.size, 0, none⟩ = some (.slice ga g.length gc) := by simp [go_sem]
    generalize mdParts g s = P at *
    clear hbl hue huc0
    go_enter Tryd.func124, Tryd.ntmps124
    go_wp2_with fail
    refine (HP0 _ hq0).mono ?_
    rintro e w1 ⟨pv0, rfl, hpv0, hb1_⟩
    obtain ⟨pv0a, pv0c, rfl⟩ := hpv0.slice
    rw [List.length_map] at hpv0 ⊢
    have c31 := (hb1_.cell (cell_lt c3)).trans c3
    have hq1 := hq0.trans (hb1_.mono hq0.size)
    by_cases h1 : (partsN (netsL g) s).length = 1
    case pos =>
      have hb3 : (((partsN (netsL g) s).length : Int) == 1) = true := by rw [beq_iff_eq]; omega
      have hb4 : ((partsN (netsL g) s).length == 1) = true := by rw [beq_iff_eq]; omega
      rw [if_pos h1] at hco hck
      have HH1 := Lib.hid h1
      go_wp2_with fail
      refine (HP1 _ hq1).mono ?_
      rintro e w2 ⟨pv1, rfl, hpv1, hb2_⟩
      obtain ⟨pv1a, pv1c, rfl⟩ := hpv1.slice
      rw [List.length_map] at hpv1 ⊢
      have c32 := (hb2_.cell (cell_lt c31)).trans c31
      have hq2 := hq1.trans (hb2_.mono hq1.size)
      by_cases h2 : (partsN (complN (netsL g)) s).length = 1
      case pos =>
        have hb5 : (((partsN (complN (netsL g)) s).length : Int) == 1) = true := by rw [beq_iff_eq]; omega
        have hb6 : ((partsN (complN (netsL g)) s).length == 1) = true := by rw [beq_iff_eq]; omega
        have hgr := HGR _ hq2 (hprim h1 h2)
        rw [if_pos h2] at hco hck
        subst hck
        have HH2 := Lib.hid h2
        clear h1 h2 HGR hprim
        go_wp2_with fail
        refine hgr.mono ?_
        rintro e wp ⟨pv, rfl, hpv, hbp⟩
        clear hgr
        rw [← hco] at hpv
        obtain ⟨pva, pvc, rfl⟩ := hpv.slice
        rw [List.length_map] at hpv ⊢
        have c3p := (hbp.cell (cell_lt c32)).trans c32
        have hqp := hq2.trans (hbp.mono hq2.size)
        obtain ⟨Pl, hPlw, hszp, hPl2⟩ : ∃ Pl, w.heap.size + 1 ≤ Pl ∧ Pl ≤ wp.heap.size ∧ SlR (fun b => Pl ≤ b ∧ b < wp.heap.size) wp (.slice pva P.length pvc) (P.map bitsI) :=
          ⟨w2.heap.size, by have := hb1_.size; have := hb2_.size; simp at *; omega, hbp.size, hpv.low3⟩
        have HCO := Lib.hid hco; clear hco
        have hwp := hqp.size
        have hTp := hT.below hqp
        have htwo := fun p hp => (hin p hp).2.2.2
        have HALL := Lib.hid hall
        have HSM := Lib.hid hsome
        clear hall hsome HP0 HP1
        have hB3 : w.heap.size ≤ Pl := by omega
        have hlitk : Own (wp.alloc (.cells #[] 2)) wp.heap.size 2 1 (.slice (some ⟨wp.heap.size, 0, none⟩) 0 0) 0 [] := World.ownsRow_lit (base := wp.heap.size) (e := 2) (size := 1) wp #[] 0 (Nat.le_refl _) (by unfold maxLen; omega) rfl
        have hda := (Below.refl wp.heap.size wp).alloc (Nat.le_refl _) (.cells #[] 2)
        have hTk : OwnX (fun b => X b ∨ (Value.slice (some ⟨wp.heap.size, 0, none⟩) 0 0).ownBlock = some b) (wp.alloc (.cells #[] 2)) B 126 2 (.slice tva t.length tvc) t :=
          (hTp.sub (fun b h1 h2 => by rcases h1 with h1 | h1; exact h1; simp [Value.ownBlock] at h1; omega)).below hda
        go_wp2
        go_loopw [2, 9, 10] (fun tr kv i wr => ∃ (k : Nat) (t2 : List PNode) (ks : List Int), i = .int .i64 k ∧ k ≤ P.length ∧ RowKit.Hid (KidsI (mdT g n) P t t2 ks k) ∧ OwnX (fun b => X b ∨ kv.ownBlock = some b) wr B 126 2 tr t2 ∧
          (∀ b, tr.ownBlock = some b → (Value.slice tva t.length tvc).ownBlock = some b ∨ wp.heap.size ≤ b) ∧ Own wr wp.heap.size 2 1 kv k (ks.map (.int .i64)) ∧ KeptBut w wr (Value.slice tva t.length tvc).ownBlock ∧ wp.heap.size ≤ wr.heap.size ∧ SlR (fun b => Pl ≤ b ∧ b < wp.heap.size) wr (.slice pva P.length pvc) (P.map bitsI) ∧ wr.cell? ⟨w.heap.size, 0, none⟩ = some (.slice ga g.length gc)) (fun _ _ i _ => P.length - (intOf i).toNat)
        case atStart => exact ⟨0, t, [], rfl, Nat.zero_le _, Lib.hid (KidsI.start _ _ _), hTk, (fun b hb => .inl hb), hlitk, KeptBut.ofBelow _ (hqp.alloc hqp.size _), by simp, hPl2.below hda (Nat.le_refl _), (hda.cell (cell_lt c3p)).trans c3p⟩
        case round =>
          clear hlitk hda hTp hTk hPl2 c3p c31 c3 hpv0
          obtain ⟨k, t2, ks, rfl, hk, HI, htr, htl2, hkd, hkb, hpw5, hpr, hbx⟩ := hrel
          obtain ⟨w5, rfl⟩ : ∃ x : World, x = wr := ⟨_, rfl⟩
          have hml := HI.out.len
          have hkl := HI.out.kids
          have hwz := hkb.2.2.2.1
          have hBw : B ≤ w5.heap.size := Nat.le_trans hB hwz
          obtain ⟨kva, kvc, rfl⟩ := hkd.isSlice
          obtain ⟨ta, tc, rfl⟩ := htr.isSlice
          by_cases hlt : k < P.length
          case neg =>
            obtain rfl : k = P.length := by omega
            have HC := Lib.hid (show (mdT g (n + 1) s t).getD [] = _ from by rw [HALL.out _ _ (HI.out.done (Nat.le_refl _))]; try rfl); clear HALL HI
            rw [List.take_length] at hml
            have hml2 : t2.length ≤ 1000 := by omega
            clear hsum
            obtain ⟨xs, vs, hcs, hown, hap, hkds, hXu, hXs⟩ := htr
            have HKL := Lib.hid hkl; clear hkl hml
            go_wp2_with (at_builtin; refine wpList_append1m elParts rfl _ _ rfl hown rfl (by first | rfl | simp) rfl rfl (by simp [Value.oneCell']) (by omega) hBw ?_; intro v' w6 hown6 hkept hmv)
            go_ret
            rw [HC.out]
            exact ⟨_, rfl, ownX_snoc (p := ⟨4, 0, ks⟩) (v := .slice kva P.length kvc) hcs hap hkds (fun i hi b hb hx => hXs i hi b hb (.inl hx)) (fun b hb hx => hXu b hb (.inl hx)) (fun b hb => by have := hXw b hb; omega) hown6 (by simp only [HKL.out]; exact hkd.weak (by omega)) (fun i hi b hb he => hXs i hi b hb (.inr he)) (fun b hb hx => by have := (hkd.lt b hb).1; have := hXw b hx; omega) (fun b hb he => hXu b he (.inr hb)) hkept (hmv.elim (fun h => .inl h) (fun h => .inr ⟨_, h, by simp⟩)), fun b hb => by
              rcases moved_or hmv (show w5.heap.size ≤ _ by simp) b hb with h | h
              · rcases htl2 b h with h | h
                · exact .inl h
                · exact .inr (by omega)
              · exact .inr (by omega), hkb.then hkept (fun b hb => by
              rcases htl2 b hb with h | h
              · exact .inl h
              · exact .inr (by omega))⟩
          have hPk := hin _ (List.getElem_mem hlt)
          have hPn := htwo _ (List.getElem_mem hlt)
          have hPt := sumP_take hlt
          have hP2 := sub_lt hs hPk.2.2.1
          have HNX := Lib.hid (fun t3 (h : mdT g n P[k] t2 = some t3) => HI.out.next hlt h (mdT_len hg2 hP2 hPk.1 h))
          have HLN := Lib.hid (fun t3 (h : mdT g n P[k] t2 = some t3) => mdT_len hg2 hP2 hPk.1 h)
          have HSP := Lib.hid (HSM.out P[k] t2 (List.getElem_mem hlt))
          obtain ⟨pa, pb, po, pcap, pf, hpe, hpl5, hpa5, hpc5⟩ := hpr
          simp only [Value.slice.injEq] at hpe
          obtain ⟨rfl, -, rfl⟩ := hpe
          obtain ⟨hpcell, hprow⟩ := hpc5 k (by simpa using hlt)
          obtain ⟨rfl, hSpb⟩ := hpa5 (by rw [List.length_map]; omega)
          simp only [List.getElem_map] at hprow
          have hpr : SlR (fun b => Pl ≤ b ∧ b < wp.heap.size) w5 (.slice (some ⟨pb, po, none⟩) P.length pvc) (P.map bitsI) := ⟨_, pb, po, pvc, pf, by rw [List.length_map], hpl5, hpa5, hpc5⟩
          obtain ⟨pra, prc, hpfe⟩ := hprow.slice
          rw [hpfe] at hpcell hprow
          clear hpc5 hpa5 HI HALL
          have hkvl := fun b hb => (hkd.lt b hb)
          have hih := fun (w6 : World) (hd : Drawn w5 w6) => ih P[k] (.slice pra (bitsI P[k]).length prc) (.slice ta t2.length tc) t2 B w6 S (fun b => Pl ≤ b ∧ b < wp.heap.size) (fun b => X b ∨ (Value.slice kva k kvc).ownBlock = some b) (by omega) hPk.1 hP2
            ((hv.keep (fun b hb => hkb.2.2.2.2 b (hS b hb).1 (fun e => (hS b hb).2 e.symm))).drawn hd) (hprow.drawn hd) (htr.drawn hd) (by omega) (by rw [hd.heap]; exact hBw)
            (fun b hb => by rw [hd.heap]; rcases hb with hb | hb; have := hXw b hb; omega; exact (hkvl b hb).2)
            (fun b hb => ⟨by rw [hd.heap]; have := (hS b hb).1; omega, fun e => by
              rcases htl2 b e with h | h
              · exact (hS b hb).2 h
              · have := (hS b hb).1; omega⟩)
            (fun b hb => ⟨by rw [hd.heap]; omega, fun e => by
              rcases htl2 b e with h | h
              · have := htl b h; omega
              · omega⟩)
          generalize P[k] = p at *
          have hkd5 := hkd
          go_wp2
          refine wp_region_held_drew (S := (fun w' => w'.cell? ⟨w.heap.size, 0, none⟩ = some (.slice ga g.length gc) ∧ w'.cell? ⟨pb, po + k, none⟩ = some (.slice pra (bitsI p).length prc))) (by kernel_rfl) ?_ (fun hHeld => ?_)
          · first | exact ⟨hbx, hpcell⟩ | exact ⟨cg, cp⟩
          have hd : Drawn w5 w5.drew := (Drawn.refl _).drew
          generalize w5.drew = wd at hd hHeld ⊢
          have hH2 := hHeld
          obtain ⟨cg, cp⟩ := hH2
          refine wpAnyH_take (i := 0) (v := ?v1) (by simp only [List.getElem?_toArray, List.getElem?_cons_zero]; exact rfl) (by kernel_rfl) (by kernel_rfl) (by kernel_rfl) (by intro _ _ _ h; exact h) (Or.inl ⟨by rfl, ?y1⟩) hHeld ?_
          case y1 => (intro w hSw; (try dsimp only at hSw); go_simp; try (with_reducible rfl))
          try simp only [Act.put, List.setIfInBounds_toArray, List.set_cons_zero, List.set_cons_succ]
          refine wpAnyH_take (i := 1) (v := ?v2) (by simp only [List.getElem?_toArray, List.getElem?_cons_succ, List.getElem?_cons_zero]; exact rfl) (by kernel_rfl) (by kernel_rfl) (by kernel_rfl) (by intro _ _ _ h; exact h) (Or.inl ⟨by rfl, ?y2⟩) hHeld ?_
          case y2 => (intro w hSw; (try dsimp only at hSw); go_simp; try (with_reducible rfl))
          try simp only [Act.put, List.setIfInBounds_toArray, List.set_cons_zero, List.set_cons_succ]
          refine wpAnyH_take (i := 2) (v := ?v3) (by simp only [List.getElem?_toArray, List.getElem?_cons_succ, List.getElem?_cons_zero]; exact rfl) (by kernel_rfl) (by kernel_rfl) (by kernel_rfl) (by intro _ _ _ h; exact h) (Or.inl ⟨by rfl, ?y3⟩) hHeld ?_
          case y3 => (intro w hSw; (try dsimp only at hSw); go_simp; try (with_reducible rfl))
          try simp only [Act.put, List.setIfInBounds_toArray, List.set_cons_zero, List.set_cons_succ]
          refine wpAnyH_take (i := 3) (v := ?v4) (by simp only [List.getElem?_toArray, List.getElem?_cons_succ, List.getElem?_cons_zero]; exact rfl) (by kernel_rfl) (by kernel_rfl) (by kernel_rfl) (by intro _ _ _ h; exact h) (Or.inl ⟨by rfl, ?y4⟩) hHeld ?_
          case y4 => (intro w hSw; (try dsimp only at hSw); go_simp; try (with_reducible rfl))
          try simp only [Act.put, List.setIfInBounds_toArray, List.set_cons_zero, List.set_cons_succ]
          refine wpAnyH_take (i := 4) (v := ?v5) (by simp only [List.getElem?_toArray, List.getElem?_cons_succ, List.getElem?_cons_zero]; exact rfl) (by kernel_rfl) (by kernel_rfl) (by kernel_rfl) (by intro _ _ _ h; exact h) (Or.inl ⟨by rfl, ?y5⟩) hHeld ?_
          case y5 => (intro w hSw; (try dsimp only at hSw); go_simp; try (with_reducible rfl))
          try simp only [Act.put, List.setIfInBounds_toArray, List.set_cons_zero, List.set_cons_succ]
          refine wpAnyH_take (i := 5) (v := ?v6) (by simp only [List.getElem?_toArray, List.getElem?_cons_succ, List.getElem?_cons_zero]; exact rfl) (by kernel_rfl) (by kernel_rfl) (by kernel_rfl) (by intro _ _ _ h; exact h) (Or.inl ⟨by rfl, ?y6⟩) hHeld ?_
          case y6 => (intro w hSw; (try dsimp only at hSw); go_simp; try (with_reducible rfl))
          try simp only [Act.put, List.setIfInBounds_toArray, List.set_cons_zero, List.set_cons_succ]
          refine wpAnyH_ready (rs := [6]) (by kernel_rfl) (by simp) ?_
          refine AllReadyH.cons (by simp only [List.getElem?_toArray, List.getElem?_cons_succ, List.getElem?_cons_zero]; exact rfl) (fun K hK => ?_) AllReadyH.nil
          go_simp
          refine (hih wd hd).mono ?_
          rintro e w6 ⟨r, rfl, hr, hloc, hk6⟩
          have cg := (World.cell?_of_block (a := ⟨w.heap.size, 0, none⟩) (hk6.2.2.2.2 w.heap.size (cell_lt cg) (fun e => Or.elim (htl2 _ e.symm) (fun h => by have := htl _ h; omega) (fun h => by omega)))).trans cg
          have cp := (World.cell?_of_block (a := ⟨pb, po + k, none⟩) (hk6.2.2.2.2 pb (cell_lt cp) (fun e => Or.elim (htl2 _ e.symm) (fun h => by have := htl _ h; have := hSpb.1; omega) (fun h => by have := hSpb.2; omega)))).trans cp
          try dsimp only
          refine hK.out _ _ ?h8 (fun hHeld => ?_)
          case h8 => first | exact ⟨hbx, hpcell⟩ | exact ⟨cg, cp⟩
          clear hK K
          try simp only [Act.put, List.setIfInBounds_toArray, List.set_cons_zero, List.set_cons_succ]
          refine wpAnyH_take (i := 7) (v := ?v9) (by simp only [List.getElem?_toArray, List.getElem?_cons_succ, List.getElem?_cons_zero]; exact rfl) (by kernel_rfl) (by kernel_rfl) (by kernel_rfl) (by intro _ _ _ h; exact h) (Or.inl ⟨by rfl, ?y9⟩) hHeld ?_
          case y9 => (intro w hSw; (try dsimp only at hSw); go_simp; try (with_reducible rfl))
          try simp only [Act.put, List.setIfInBounds_toArray, List.set_cons_zero, List.set_cons_succ]
          refine wpAnyH_done (by kernel_rfl) ?_ _
          have hkw : KeptBut w5 w6 (Value.slice ta t2.length tc).ownBlock := (KeptBut.ofDrawn hd _).trans hk6
          have hkb6 : KeptBut w w6 (Value.slice tva t.length tvc).ownBlock := hkb.then hkw (fun b hb => by
            rcases htl2 b hb with h | h
            · exact .inl h
            · exact .inr (by omega))
          have hkvt : ∀ b, (Value.slice kva k kvc).ownBlock = some b → (Value.slice ta t2.length tc).ownBlock ≠ some b := by
            obtain ⟨xs, vs, _, _, _, _, hXu, _⟩ := htr
            exact fun b hb he => hXu b he (.inr hb)
          have hkd6 := Own.kept hkd hkw hkvt
          have hpr6 := hpr.keep (w' := w6) (fun b hb => hkw.2.2.2.2 b (by omega) (fun e => by
            rcases htl2 b e.symm with h | h
            · have := htl b h; omega
            · omega))
          have hB6 : wp.heap.size ≤ w6.heap.size := Nat.le_trans hpw5 hkw.2.2.2.1
          obtain ⟨t3, hcb⟩ := HSP.out
          have HX := Lib.hid (HNX.out t3 hcb)
          have hm6 := HLN.out t3 hcb
          rw [hcb] at hr
          simp only [Option.getD_some] at hr
          clear hcb HSP HNX HLN hih htr
          obtain ⟨ra, rc, rfl⟩ := hr.isSlice
          go_wp2_with (at_builtin; refine wpList_append1b elI64 rfl _ _ rfl hkd6 rfl (by first | rfl | simp) rfl rfl (by omega) hB6 ?_; intro kv' w8 hown8 hkept hmv)
          have htr8 : OwnX (fun b => X b ∨ kv'.ownBlock = some b) w8 B 126 2 (.slice ra t3.length rc) t3 :=
            ((hr.sub (Y := fun b => X b ∨ (Value.slice kva k kvc).ownBlock = some b ∨ kv'.ownBlock = some b) (fun b h1 h2 => by
              rcases h1 with h1 | h1 | h1
              · exact .inl h1
              · exact .inr h1
              · rcases moved_or hmv (show w6.heap.size ≤ _ by simp) b h1 with h | h
                · exact .inr h
                · omega)).kept hkept (fun b hb => .inr (.inl hb))).sub (fun b h1 _ => by
              rcases h1 with h1 | h1
              · exact .inl h1
              · exact .inr (.inr h1))
          go_roundw
          case rel => exact ⟨k + 1, t3, _, by go_num, by omega, HX, htr8, (fun b hb => by
              rcases hloc b hb with h | h
              · exact htl2 b h
              · rw [hd.heap] at h; exact .inr (by omega)), by rw [List.map_append]; exact hown8, hkb6.then hkept (fun b hb => .inr (by have := (hkd6.lt b hb).1; omega)), Nat.le_trans hB6 hkept.2.2.2.1, hpr6.keep (fun b hb => hkept.2.2.2.2 b (by omega) (fun e => by have := (hkd6.lt b e.symm).1; omega)), (World.cell?_of_block (a := ⟨w.heap.size, 0, none⟩) (hkept.2.2.2.2 w.heap.size (cell_lt cg) (fun e => by have := (hkd6.lt _ e.symm).1; omega))).trans cg⟩
          case measure => simp [intOf]; omega
      case neg =>
        have hb5 : (((partsN (complN (netsL g)) s).length : Int) == 1) = false := by rw [beq_eq_false_iff_ne]; omega
        have hb6 : ((partsN (complN (netsL g)) s).length == 1) = false := by rw [beq_eq_false_iff_ne]; omega
        rw [if_neg h2] at hco hck
        subst hck
        have HH2 := Lib.hid h2
        clear h1 h2 HGR hprim
        obtain ⟨wp, rfl⟩ : ∃ x : World, x = w2 := ⟨_, rfl⟩
        obtain ⟨pva, rfl⟩ : ∃ x, x = pv1a := ⟨_, rfl⟩
        obtain ⟨pvc, rfl⟩ : ∃ x, x = pv1c := ⟨_, rfl⟩
        rw [← hco] at hpv1 ⊢
        rw [← hco] at hb5 hb6
        have c3p := c32
        have hqp := hq2
        obtain ⟨Pl, hPlw, hszp, hPl2⟩ : ∃ Pl, w.heap.size + 1 ≤ Pl ∧ Pl ≤ wp.heap.size ∧ SlR (fun b => Pl ≤ b ∧ b < wp.heap.size) wp (.slice pva P.length pvc) (P.map bitsI) :=
          ⟨w1.heap.size, by have := hb1_.size; simp at *; omega, hb2_.size, hpv1.low3⟩
        have HCO := Lib.hid hco; clear hco
        have hwp := hqp.size
        have hTp := hT.below hqp
        have htwo := fun p hp => (hin p hp).2.2.2
        have HALL := Lib.hid hall
        have HSM := Lib.hid hsome
        clear hall hsome HP0 HP1
        have hB3 : w.heap.size ≤ Pl := by omega
        have hlitk : Own (wp.alloc (.cells #[] 2)) wp.heap.size 2 1 (.slice (some ⟨wp.heap.size, 0, none⟩) 0 0) 0 [] := World.ownsRow_lit (base := wp.heap.size) (e := 2) (size := 1) wp #[] 0 (Nat.le_refl _) (by unfold maxLen; omega) rfl
        have hda := (Below.refl wp.heap.size wp).alloc (Nat.le_refl _) (.cells #[] 2)
        have hTk : OwnX (fun b => X b ∨ (Value.slice (some ⟨wp.heap.size, 0, none⟩) 0 0).ownBlock = some b) (wp.alloc (.cells #[] 2)) B 126 2 (.slice tva t.length tvc) t :=
          (hTp.sub (fun b h1 h2 => by rcases h1 with h1 | h1; exact h1; simp [Value.ownBlock] at h1; omega)).below hda
        go_wp2
        go_loopw [2, 9, 10] (fun tr kv i wr => ∃ (k : Nat) (t2 : List PNode) (ks : List Int), i = .int .i64 k ∧ k ≤ P.length ∧ RowKit.Hid (KidsI (mdT g n) P t t2 ks k) ∧ OwnX (fun b => X b ∨ kv.ownBlock = some b) wr B 126 2 tr t2 ∧
          (∀ b, tr.ownBlock = some b → (Value.slice tva t.length tvc).ownBlock = some b ∨ wp.heap.size ≤ b) ∧ Own wr wp.heap.size 2 1 kv k (ks.map (.int .i64)) ∧ KeptBut w wr (Value.slice tva t.length tvc).ownBlock ∧ wp.heap.size ≤ wr.heap.size ∧ SlR (fun b => Pl ≤ b ∧ b < wp.heap.size) wr (.slice pva P.length pvc) (P.map bitsI) ∧ wr.cell? ⟨w.heap.size, 0, none⟩ = some (.slice ga g.length gc)) (fun _ _ i _ => P.length - (intOf i).toNat)
        case atStart => exact ⟨0, t, [], rfl, Nat.zero_le _, Lib.hid (KidsI.start _ _ _), hTk, (fun b hb => .inl hb), hlitk, KeptBut.ofBelow _ (hqp.alloc hqp.size _), by simp, hPl2.below hda (Nat.le_refl _), (hda.cell (cell_lt c3p)).trans c3p⟩
        case round =>
          clear hlitk hda hTp hTk hPl2 c3p c31 c3 hpv0
          obtain ⟨k, t2, ks, rfl, hk, HI, htr, htl2, hkd, hkb, hpw5, hpr, hbx⟩ := hrel
          obtain ⟨w5, rfl⟩ : ∃ x : World, x = wr := ⟨_, rfl⟩
          have hml := HI.out.len
          have hkl := HI.out.kids
          have hwz := hkb.2.2.2.1
          have hBw : B ≤ w5.heap.size := Nat.le_trans hB hwz
          obtain ⟨kva, kvc, rfl⟩ := hkd.isSlice
          obtain ⟨ta, tc, rfl⟩ := htr.isSlice
          by_cases hlt : k < P.length
          case neg =>
            obtain rfl : k = P.length := by omega
            have HC := Lib.hid (show (mdT g (n + 1) s t).getD [] = _ from by rw [HALL.out _ _ (HI.out.done (Nat.le_refl _))]; try rfl); clear HALL HI
            rw [List.take_length] at hml
            have hml2 : t2.length ≤ 1000 := by omega
            clear hsum
            obtain ⟨xs, vs, hcs, hown, hap, hkds, hXu, hXs⟩ := htr
            have HKL := Lib.hid hkl; clear hkl hml
            go_wp2_with (at_builtin; refine wpList_append1m elParts rfl _ _ rfl hown rfl (by first | rfl | simp) rfl rfl (by simp [Value.oneCell']) (by omega) hBw ?_; intro v' w6 hown6 hkept hmv)
            go_ret
            rw [HC.out]
            exact ⟨_, rfl, ownX_snoc (p := ⟨3, 0, ks⟩) (v := .slice kva P.length kvc) hcs hap hkds (fun i hi b hb hx => hXs i hi b hb (.inl hx)) (fun b hb hx => hXu b hb (.inl hx)) (fun b hb => by have := hXw b hb; omega) hown6 (by simp only [HKL.out]; exact hkd.weak (by omega)) (fun i hi b hb he => hXs i hi b hb (.inr he)) (fun b hb hx => by have := (hkd.lt b hb).1; have := hXw b hx; omega) (fun b hb he => hXu b he (.inr hb)) hkept (hmv.elim (fun h => .inl h) (fun h => .inr ⟨_, h, by simp⟩)), fun b hb => by
              rcases moved_or hmv (show w5.heap.size ≤ _ by simp) b hb with h | h
              · rcases htl2 b h with h | h
                · exact .inl h
                · exact .inr (by omega)
              · exact .inr (by omega), hkb.then hkept (fun b hb => by
              rcases htl2 b hb with h | h
              · exact .inl h
              · exact .inr (by omega))⟩
          have hPk := hin _ (List.getElem_mem hlt)
          have hPn := htwo _ (List.getElem_mem hlt)
          have hPt := sumP_take hlt
          have hP2 := sub_lt hs hPk.2.2.1
          have HNX := Lib.hid (fun t3 (h : mdT g n P[k] t2 = some t3) => HI.out.next hlt h (mdT_len hg2 hP2 hPk.1 h))
          have HLN := Lib.hid (fun t3 (h : mdT g n P[k] t2 = some t3) => mdT_len hg2 hP2 hPk.1 h)
          have HSP := Lib.hid (HSM.out P[k] t2 (List.getElem_mem hlt))
          obtain ⟨pa, pb, po, pcap, pf, hpe, hpl5, hpa5, hpc5⟩ := hpr
          simp only [Value.slice.injEq] at hpe
          obtain ⟨rfl, -, rfl⟩ := hpe
          obtain ⟨hpcell, hprow⟩ := hpc5 k (by simpa using hlt)
          obtain ⟨rfl, hSpb⟩ := hpa5 (by rw [List.length_map]; omega)
          simp only [List.getElem_map] at hprow
          have hpr : SlR (fun b => Pl ≤ b ∧ b < wp.heap.size) w5 (.slice (some ⟨pb, po, none⟩) P.length pvc) (P.map bitsI) := ⟨_, pb, po, pvc, pf, by rw [List.length_map], hpl5, hpa5, hpc5⟩
          obtain ⟨pra, prc, hpfe⟩ := hprow.slice
          rw [hpfe] at hpcell hprow
          clear hpc5 hpa5 HI HALL
          have hkvl := fun b hb => (hkd.lt b hb)
          have hih := fun (w6 : World) (hd : Drawn w5 w6) => ih P[k] (.slice pra (bitsI P[k]).length prc) (.slice ta t2.length tc) t2 B w6 S (fun b => Pl ≤ b ∧ b < wp.heap.size) (fun b => X b ∨ (Value.slice kva k kvc).ownBlock = some b) (by omega) hPk.1 hP2
            ((hv.keep (fun b hb => hkb.2.2.2.2 b (hS b hb).1 (fun e => (hS b hb).2 e.symm))).drawn hd) (hprow.drawn hd) (htr.drawn hd) (by omega) (by rw [hd.heap]; exact hBw)
            (fun b hb => by rw [hd.heap]; rcases hb with hb | hb; have := hXw b hb; omega; exact (hkvl b hb).2)
            (fun b hb => ⟨by rw [hd.heap]; have := (hS b hb).1; omega, fun e => by
              rcases htl2 b e with h | h
              · exact (hS b hb).2 h
              · have := (hS b hb).1; omega⟩)
            (fun b hb => ⟨by rw [hd.heap]; omega, fun e => by
              rcases htl2 b e with h | h
              · have := htl b h; omega
              · omega⟩)
          generalize P[k] = p at *
          have hkd5 := hkd
          go_wp2
          refine wp_region_held_drew (S := (fun w' => w'.cell? ⟨w.heap.size, 0, none⟩ = some (.slice ga g.length gc) ∧ w'.cell? ⟨pb, po + k, none⟩ = some (.slice pra (bitsI p).length prc))) (by kernel_rfl) ?_ (fun hHeld => ?_)
          · first | exact ⟨hbx, hpcell⟩ | exact ⟨cg, cp⟩
          have hd : Drawn w5 w5.drew := (Drawn.refl _).drew
          generalize w5.drew = wd at hd hHeld ⊢
          have hH2 := hHeld
          obtain ⟨cg, cp⟩ := hH2
          refine wpAnyH_take (i := 0) (v := ?v10) (by simp only [List.getElem?_toArray, List.getElem?_cons_zero]; exact rfl) (by kernel_rfl) (by kernel_rfl) (by kernel_rfl) (by intro _ _ _ h; exact h) (Or.inl ⟨by rfl, ?y10⟩) hHeld ?_
          case y10 => (intro w hSw; (try dsimp only at hSw); go_simp; try (with_reducible rfl))
          try simp only [Act.put, List.setIfInBounds_toArray, List.set_cons_zero, List.set_cons_succ]
          refine wpAnyH_take (i := 1) (v := ?v11) (by simp only [List.getElem?_toArray, List.getElem?_cons_succ, List.getElem?_cons_zero]; exact rfl) (by kernel_rfl) (by kernel_rfl) (by kernel_rfl) (by intro _ _ _ h; exact h) (Or.inl ⟨by rfl, ?y11⟩) hHeld ?_
          case y11 => (intro w hSw; (try dsimp only at hSw); go_simp; try (with_reducible rfl))
          try simp only [Act.put, List.setIfInBounds_toArray, List.set_cons_zero, List.set_cons_succ]
          refine wpAnyH_take (i := 2) (v := ?v12) (by simp only [List.getElem?_toArray, List.getElem?_cons_succ, List.getElem?_cons_zero]; exact rfl) (by kernel_rfl) (by kernel_rfl) (by kernel_rfl) (by intro _ _ _ h; exact h) (Or.inl ⟨by rfl, ?y12⟩) hHeld ?_
          case y12 => (intro w hSw; (try dsimp only at hSw); go_simp; try (with_reducible rfl))
          try simp only [Act.put, List.setIfInBounds_toArray, List.set_cons_zero, List.set_cons_succ]
          refine wpAnyH_take (i := 3) (v := ?v13) (by simp only [List.getElem?_toArray, List.getElem?_cons_succ, List.getElem?_cons_zero]; exact rfl) (by kernel_rfl) (by kernel_rfl) (by kernel_rfl) (by intro _ _ _ h; exact h) (Or.inl ⟨by rfl, ?y13⟩) hHeld ?_
          case y13 => (intro w hSw; (try dsimp only at hSw); go_simp; try (with_reducible rfl))
          try simp only [Act.put, List.setIfInBounds_toArray, List.set_cons_zero, List.set_cons_succ]
          refine wpAnyH_take (i := 4) (v := ?v14) (by simp only [List.getElem?_toArray, List.getElem?_cons_succ, List.getElem?_cons_zero]; exact rfl) (by kernel_rfl) (by kernel_rfl) (by kernel_rfl) (by intro _ _ _ h; exact h) (Or.inl ⟨by rfl, ?y14⟩) hHeld ?_
          case y14 => (intro w hSw; (try dsimp only at hSw); go_simp; try (with_reducible rfl))
          try simp only [Act.put, List.setIfInBounds_toArray, List.set_cons_zero, List.set_cons_succ]
          refine wpAnyH_take (i := 5) (v := ?v15) (by simp only [List.getElem?_toArray, List.getElem?_cons_succ, List.getElem?_cons_zero]; exact rfl) (by kernel_rfl) (by kernel_rfl) (by kernel_rfl) (by intro _ _ _ h; exact h) (Or.inl ⟨by rfl, ?y15⟩) hHeld ?_
          case y15 => (intro w hSw; (try dsimp only at hSw); go_simp; try (with_reducible rfl))
          try simp only [Act.put, List.setIfInBounds_toArray, List.set_cons_zero, List.set_cons_succ]
          refine wpAnyH_ready (rs := [6]) (by kernel_rfl) (by simp) ?_
          refine AllReadyH.cons (by simp only [List.getElem?_toArray, List.getElem?_cons_succ, List.getElem?_cons_zero]; exact rfl) (fun K hK => ?_) AllReadyH.nil
          go_simp
          refine (hih wd hd).mono ?_
          rintro e w6 ⟨r, rfl, hr, hloc, hk6⟩
          have cg := (World.cell?_of_block (a := ⟨w.heap.size, 0, none⟩) (hk6.2.2.2.2 w.heap.size (cell_lt cg) (fun e => Or.elim (htl2 _ e.symm) (fun h => by have := htl _ h; omega) (fun h => by omega)))).trans cg
          have cp := (World.cell?_of_block (a := ⟨pb, po + k, none⟩) (hk6.2.2.2.2 pb (cell_lt cp) (fun e => Or.elim (htl2 _ e.symm) (fun h => by have := htl _ h; have := hSpb.1; omega) (fun h => by have := hSpb.2; omega)))).trans cp
          try dsimp only
          refine hK.out _ _ ?h17 (fun hHeld => ?_)
          case h17 => first | exact ⟨hbx, hpcell⟩ | exact ⟨cg, cp⟩
          clear hK K
          try simp only [Act.put, List.setIfInBounds_toArray, List.set_cons_zero, List.set_cons_succ]
          refine wpAnyH_take (i := 7) (v := ?v18) (by simp only [List.getElem?_toArray, List.getElem?_cons_succ, List.getElem?_cons_zero]; exact rfl) (by kernel_rfl) (by kernel_rfl) (by kernel_rfl) (by intro _ _ _ h; exact h) (Or.inl ⟨by rfl, ?y18⟩) hHeld ?_
          case y18 => (intro w hSw; (try dsimp only at hSw); go_simp; try (with_reducible rfl))
          try simp only [Act.put, List.setIfInBounds_toArray, List.set_cons_zero, List.set_cons_succ]
          refine wpAnyH_done (by kernel_rfl) ?_ _
          have hkw : KeptBut w5 w6 (Value.slice ta t2.length tc).ownBlock := (KeptBut.ofDrawn hd _).trans hk6
          have hkb6 : KeptBut w w6 (Value.slice tva t.length tvc).ownBlock := hkb.then hkw (fun b hb => by
            rcases htl2 b hb with h | h
            · exact .inl h
            · exact .inr (by omega))
          have hkvt : ∀ b, (Value.slice kva k kvc).ownBlock = some b → (Value.slice ta t2.length tc).ownBlock ≠ some b := by
            obtain ⟨xs, vs, _, _, _, _, hXu, _⟩ := htr
            exact fun b hb he => hXu b he (.inr hb)
          have hkd6 := Own.kept hkd hkw hkvt
          have hpr6 := hpr.keep (w' := w6) (fun b hb => hkw.2.2.2.2 b (by omega) (fun e => by
            rcases htl2 b e.symm with h | h
            · have := htl b h; omega
            · omega))
          have hB6 : wp.heap.size ≤ w6.heap.size := Nat.le_trans hpw5 hkw.2.2.2.1
          obtain ⟨t3, hcb⟩ := HSP.out
          have HX := Lib.hid (HNX.out t3 hcb)
          have hm6 := HLN.out t3 hcb
          rw [hcb] at hr
          simp only [Option.getD_some] at hr
          clear hcb HSP HNX HLN hih htr
          obtain ⟨ra, rc, rfl⟩ := hr.isSlice
          go_wp2_with (at_builtin; refine wpList_append1b elI64 rfl _ _ rfl hkd6 rfl (by first | rfl | simp) rfl rfl (by omega) hB6 ?_; intro kv' w8 hown8 hkept hmv)
          have htr8 : OwnX (fun b => X b ∨ kv'.ownBlock = some b) w8 B 126 2 (.slice ra t3.length rc) t3 :=
            ((hr.sub (Y := fun b => X b ∨ (Value.slice kva k kvc).ownBlock = some b ∨ kv'.ownBlock = some b) (fun b h1 h2 => by
              rcases h1 with h1 | h1 | h1
              · exact .inl h1
              · exact .inr h1
              · rcases moved_or hmv (show w6.heap.size ≤ _ by simp) b h1 with h | h
                · exact .inr h
                · omega)).kept hkept (fun b hb => .inr (.inl hb))).sub (fun b h1 _ => by
              rcases h1 with h1 | h1
              · exact .inl h1
              · exact .inr (.inr h1))
          go_roundw
          case rel => exact ⟨k + 1, t3, _, by go_num, by omega, HX, htr8, (fun b hb => by
              rcases hloc b hb with h | h
              · exact htl2 b h
              · rw [hd.heap] at h; exact .inr (by omega)), by rw [List.map_append]; exact hown8, hkb6.then hkept (fun b hb => .inr (by have := (hkd6.lt b hb).1; omega)), Nat.le_trans hB6 hkept.2.2.2.1, hpr6.keep (fun b hb => hkept.2.2.2.2 b (by omega) (fun e => by have := (hkd6.lt b e.symm).1; omega)), (World.cell?_of_block (a := ⟨w.heap.size, 0, none⟩) (hkept.2.2.2.2 w.heap.size (cell_lt cg) (fun e => by have := (hkd6.lt _ e.symm).1; omega))).trans cg⟩
          case measure => simp [intOf]; omega
    case neg =>
      have hb3 : (((partsN (netsL g) s).length : Int) == 1) = false := by rw [beq_eq_false_iff_ne]; omega
      have hb4 : ((partsN (netsL g) s).length == 1) = false := by rw [beq_eq_false_iff_ne]; omega
      rw [if_neg h1] at hco hck
      subst hck
      have HH1 := Lib.hid h1; clear h1 HGR hprim
      obtain ⟨wp, rfl⟩ : ∃ x : World, x = w1 := ⟨_, rfl⟩
      obtain ⟨pva, rfl⟩ : ∃ x, x = pv0a := ⟨_, rfl⟩
      obtain ⟨pvc, rfl⟩ : ∃ x, x = pv0c := ⟨_, rfl⟩
      rw [← hco] at hpv0 ⊢
      rw [← hco] at hb3 hb4
      have c3p := c31
      have hqp := hq1
      obtain ⟨Pl, hPlw, hszp, hPl2⟩ : ∃ Pl, w.heap.size + 1 ≤ Pl ∧ Pl ≤ wp.heap.size ∧ SlR (fun b => Pl ≤ b ∧ b < wp.heap.size) wp (.slice pva P.length pvc) (P.map bitsI) :=
        ⟨(w.alloc (.cells #[.slice ga g.length gc] 29)).heap.size, by simp, hb1_.size, hpv0.low3⟩
      have HCO := Lib.hid hco; clear hco
      have hwp := hqp.size
      have hTp := hT.below hqp
      have htwo := fun p hp => (hin p hp).2.2.2
      have HALL := Lib.hid hall
      have HSM := Lib.hid hsome
      clear hall hsome HP0 HP1
      have hB3 : w.heap.size ≤ Pl := by omega
      have hlitk : Own (wp.alloc (.cells #[] 2)) wp.heap.size 2 1 (.slice (some ⟨wp.heap.size, 0, none⟩) 0 0) 0 [] := World.ownsRow_lit (base := wp.heap.size) (e := 2) (size := 1) wp #[] 0 (Nat.le_refl _) (by unfold maxLen; omega) rfl
      have hda := (Below.refl wp.heap.size wp).alloc (Nat.le_refl _) (.cells #[] 2)
      have hTk : OwnX (fun b => X b ∨ (Value.slice (some ⟨wp.heap.size, 0, none⟩) 0 0).ownBlock = some b) (wp.alloc (.cells #[] 2)) B 126 2 (.slice tva t.length tvc) t :=
        (hTp.sub (fun b h1 h2 => by rcases h1 with h1 | h1; exact h1; simp [Value.ownBlock] at h1; omega)).below hda
      go_wp2
      go_loopw [2, 9, 10] (fun tr kv i wr => ∃ (k : Nat) (t2 : List PNode) (ks : List Int), i = .int .i64 k ∧ k ≤ P.length ∧ RowKit.Hid (KidsI (mdT g n) P t t2 ks k) ∧ OwnX (fun b => X b ∨ kv.ownBlock = some b) wr B 126 2 tr t2 ∧
        (∀ b, tr.ownBlock = some b → (Value.slice tva t.length tvc).ownBlock = some b ∨ wp.heap.size ≤ b) ∧ Own wr wp.heap.size 2 1 kv k (ks.map (.int .i64)) ∧ KeptBut w wr (Value.slice tva t.length tvc).ownBlock ∧ wp.heap.size ≤ wr.heap.size ∧ SlR (fun b => Pl ≤ b ∧ b < wp.heap.size) wr (.slice pva P.length pvc) (P.map bitsI) ∧ wr.cell? ⟨w.heap.size, 0, none⟩ = some (.slice ga g.length gc)) (fun _ _ i _ => P.length - (intOf i).toNat)
      case atStart => exact ⟨0, t, [], rfl, Nat.zero_le _, Lib.hid (KidsI.start _ _ _), hTk, (fun b hb => .inl hb), hlitk, KeptBut.ofBelow _ (hqp.alloc hqp.size _), by simp, hPl2.below hda (Nat.le_refl _), (hda.cell (cell_lt c3p)).trans c3p⟩
      case round =>
        clear hlitk hda hTp hTk hPl2 c3p c31 c3 hpv0
        obtain ⟨k, t2, ks, rfl, hk, HI, htr, htl2, hkd, hkb, hpw5, hpr, hbx⟩ := hrel
        obtain ⟨w5, rfl⟩ : ∃ x : World, x = wr := ⟨_, rfl⟩
        have hml := HI.out.len
        have hkl := HI.out.kids
        have hwz := hkb.2.2.2.1
        have hBw : B ≤ w5.heap.size := Nat.le_trans hB hwz
        obtain ⟨kva, kvc, rfl⟩ := hkd.isSlice
        obtain ⟨ta, tc, rfl⟩ := htr.isSlice
        by_cases hlt : k < P.length
        case neg =>
          obtain rfl : k = P.length := by omega
          have HC := Lib.hid (show (mdT g (n + 1) s t).getD [] = _ from by rw [HALL.out _ _ (HI.out.done (Nat.le_refl _))]; try rfl); clear HALL HI
          rw [List.take_length] at hml
          have hml2 : t2.length ≤ 1000 := by omega
          clear hsum
          obtain ⟨xs, vs, hcs, hown, hap, hkds, hXu, hXs⟩ := htr
          have HKL := Lib.hid hkl; clear hkl hml
          go_wp2_with (at_builtin; refine wpList_append1m elParts rfl _ _ rfl hown rfl (by first | rfl | simp) rfl rfl (by simp [Value.oneCell']) (by omega) hBw ?_; intro v' w6 hown6 hkept hmv)
          go_ret
          rw [HC.out]
          exact ⟨_, rfl, ownX_snoc (p := ⟨2, 0, ks⟩) (v := .slice kva P.length kvc) hcs hap hkds (fun i hi b hb hx => hXs i hi b hb (.inl hx)) (fun b hb hx => hXu b hb (.inl hx)) (fun b hb => by have := hXw b hb; omega) hown6 (by simp only [HKL.out]; exact hkd.weak (by omega)) (fun i hi b hb he => hXs i hi b hb (.inr he)) (fun b hb hx => by have := (hkd.lt b hb).1; have := hXw b hx; omega) (fun b hb he => hXu b he (.inr hb)) hkept (hmv.elim (fun h => .inl h) (fun h => .inr ⟨_, h, by simp⟩)), fun b hb => by
            rcases moved_or hmv (show w5.heap.size ≤ _ by simp) b hb with h | h
            · rcases htl2 b h with h | h
              · exact .inl h
              · exact .inr (by omega)
            · exact .inr (by omega), hkb.then hkept (fun b hb => by
            rcases htl2 b hb with h | h
            · exact .inl h
            · exact .inr (by omega))⟩
        have hPk := hin _ (List.getElem_mem hlt)
        have hPn := htwo _ (List.getElem_mem hlt)
        have hPt := sumP_take hlt
        have hP2 := sub_lt hs hPk.2.2.1
        have HNX := Lib.hid (fun t3 (h : mdT g n P[k] t2 = some t3) => HI.out.next hlt h (mdT_len hg2 hP2 hPk.1 h))
        have HLN := Lib.hid (fun t3 (h : mdT g n P[k] t2 = some t3) => mdT_len hg2 hP2 hPk.1 h)
        have HSP := Lib.hid (HSM.out P[k] t2 (List.getElem_mem hlt))
        obtain ⟨pa, pb, po, pcap, pf, hpe, hpl5, hpa5, hpc5⟩ := hpr
        simp only [Value.slice.injEq] at hpe
        obtain ⟨rfl, -, rfl⟩ := hpe
        obtain ⟨hpcell, hprow⟩ := hpc5 k (by simpa using hlt)
        obtain ⟨rfl, hSpb⟩ := hpa5 (by rw [List.length_map]; omega)
        simp only [List.getElem_map] at hprow
        have hpr : SlR (fun b => Pl ≤ b ∧ b < wp.heap.size) w5 (.slice (some ⟨pb, po, none⟩) P.length pvc) (P.map bitsI) := ⟨_, pb, po, pvc, pf, by rw [List.length_map], hpl5, hpa5, hpc5⟩
        obtain ⟨pra, prc, hpfe⟩ := hprow.slice
        rw [hpfe] at hpcell hprow
        clear hpc5 hpa5 HI HALL
        have hkvl := fun b hb => (hkd.lt b hb)
        have hih := fun (w6 : World) (hd : Drawn w5 w6) => ih P[k] (.slice pra (bitsI P[k]).length prc) (.slice ta t2.length tc) t2 B w6 S (fun b => Pl ≤ b ∧ b < wp.heap.size) (fun b => X b ∨ (Value.slice kva k kvc).ownBlock = some b) (by omega) hPk.1 hP2
          ((hv.keep (fun b hb => hkb.2.2.2.2 b (hS b hb).1 (fun e => (hS b hb).2 e.symm))).drawn hd) (hprow.drawn hd) (htr.drawn hd) (by omega) (by rw [hd.heap]; exact hBw)
          (fun b hb => by rw [hd.heap]; rcases hb with hb | hb; have := hXw b hb; omega; exact (hkvl b hb).2)
          (fun b hb => ⟨by rw [hd.heap]; have := (hS b hb).1; omega, fun e => by
            rcases htl2 b e with h | h
            · exact (hS b hb).2 h
            · have := (hS b hb).1; omega⟩)
          (fun b hb => ⟨by rw [hd.heap]; omega, fun e => by
            rcases htl2 b e with h | h
            · have := htl b h; omega
            · omega⟩)
        generalize P[k] = p at *
        have hkd5 := hkd
        go_wp2
        refine wp_region_held_drew (S := (fun w' => w'.cell? ⟨w.heap.size, 0, none⟩ = some (.slice ga g.length gc) ∧ w'.cell? ⟨pb, po + k, none⟩ = some (.slice pra (bitsI p).length prc))) (by kernel_rfl) ?_ (fun hHeld => ?_)
        · first | exact ⟨hbx, hpcell⟩ | exact ⟨cg, cp⟩
        have hd : Drawn w5 w5.drew := (Drawn.refl _).drew
        generalize w5.drew = wd at hd hHeld ⊢
        have hH2 := hHeld
        obtain ⟨cg, cp⟩ := hH2
        refine wpAnyH_take (i := 0) (v := ?v19) (by simp only [List.getElem?_toArray, List.getElem?_cons_zero]; exact rfl) (by kernel_rfl) (by kernel_rfl) (by kernel_rfl) (by intro _ _ _ h; exact h) (Or.inl ⟨by rfl, ?y19⟩) hHeld ?_
        case y19 => (intro w hSw; (try dsimp only at hSw); go_simp; try (with_reducible rfl))
        try simp only [Act.put, List.setIfInBounds_toArray, List.set_cons_zero, List.set_cons_succ]
        refine wpAnyH_take (i := 1) (v := ?v20) (by simp only [List.getElem?_toArray, List.getElem?_cons_succ, List.getElem?_cons_zero]; exact rfl) (by kernel_rfl) (by kernel_rfl) (by kernel_rfl) (by intro _ _ _ h; exact h) (Or.inl ⟨by rfl, ?y20⟩) hHeld ?_
        case y20 => (intro w hSw; (try dsimp only at hSw); go_simp; try (with_reducible rfl))
        try simp only [Act.put, List.setIfInBounds_toArray, List.set_cons_zero, List.set_cons_succ]
        refine wpAnyH_take (i := 2) (v := ?v21) (by simp only [List.getElem?_toArray, List.getElem?_cons_succ, List.getElem?_cons_zero]; exact rfl) (by kernel_rfl) (by kernel_rfl) (by kernel_rfl) (by intro _ _ _ h; exact h) (Or.inl ⟨by rfl, ?y21⟩) hHeld ?_
        case y21 => (intro w hSw; (try dsimp only at hSw); go_simp; try (with_reducible rfl))
        try simp only [Act.put, List.setIfInBounds_toArray, List.set_cons_zero, List.set_cons_succ]
        refine wpAnyH_take (i := 3) (v := ?v22) (by simp only [List.getElem?_toArray, List.getElem?_cons_succ, List.getElem?_cons_zero]; exact rfl) (by kernel_rfl) (by kernel_rfl) (by kernel_rfl) (by intro _ _ _ h; exact h) (Or.inl ⟨by rfl, ?y22⟩) hHeld ?_
        case y22 => (intro w hSw; (try dsimp only at hSw); go_simp; try (with_reducible rfl))
        try simp only [Act.put, List.setIfInBounds_toArray, List.set_cons_zero, List.set_cons_succ]
        refine wpAnyH_take (i := 4) (v := ?v23) (by simp only [List.getElem?_toArray, List.getElem?_cons_succ, List.getElem?_cons_zero]; exact rfl) (by kernel_rfl) (by kernel_rfl) (by kernel_rfl) (by intro _ _ _ h; exact h) (Or.inl ⟨by rfl, ?y23⟩) hHeld ?_
        case y23 => (intro w hSw; (try dsimp only at hSw); go_simp; try (with_reducible rfl))
        try simp only [Act.put, List.setIfInBounds_toArray, List.set_cons_zero, List.set_cons_succ]
        refine wpAnyH_take (i := 5) (v := ?v24) (by simp only [List.getElem?_toArray, List.getElem?_cons_succ, List.getElem?_cons_zero]; exact rfl) (by kernel_rfl) (by kernel_rfl) (by kernel_rfl) (by intro _ _ _ h; exact h) (Or.inl ⟨by rfl, ?y24⟩) hHeld ?_
        case y24 => (intro w hSw; (try dsimp only at hSw); go_simp; try (with_reducible rfl))
        try simp only [Act.put, List.setIfInBounds_toArray, List.set_cons_zero, List.set_cons_succ]
        refine wpAnyH_ready (rs := [6]) (by kernel_rfl) (by simp) ?_
        refine AllReadyH.cons (by simp only [List.getElem?_toArray, List.getElem?_cons_succ, List.getElem?_cons_zero]; exact rfl) (fun K hK => ?_) AllReadyH.nil
        go_simp
        refine (hih wd hd).mono ?_
        rintro e w6 ⟨r, rfl, hr, hloc, hk6⟩
        have cg := (World.cell?_of_block (a := ⟨w.heap.size, 0, none⟩) (hk6.2.2.2.2 w.heap.size (cell_lt cg) (fun e => Or.elim (htl2 _ e.symm) (fun h => by have := htl _ h; omega) (fun h => by omega)))).trans cg
        have cp := (World.cell?_of_block (a := ⟨pb, po + k, none⟩) (hk6.2.2.2.2 pb (cell_lt cp) (fun e => Or.elim (htl2 _ e.symm) (fun h => by have := htl _ h; have := hSpb.1; omega) (fun h => by have := hSpb.2; omega)))).trans cp
        try dsimp only
        refine hK.out _ _ ?h26 (fun hHeld => ?_)
        case h26 => first | exact ⟨hbx, hpcell⟩ | exact ⟨cg, cp⟩
        clear hK K
        try simp only [Act.put, List.setIfInBounds_toArray, List.set_cons_zero, List.set_cons_succ]
        refine wpAnyH_take (i := 7) (v := ?v27) (by simp only [List.getElem?_toArray, List.getElem?_cons_succ, List.getElem?_cons_zero]; exact rfl) (by kernel_rfl) (by kernel_rfl) (by kernel_rfl) (by intro _ _ _ h; exact h) (Or.inl ⟨by rfl, ?y27⟩) hHeld ?_
        case y27 => (intro w hSw; (try dsimp only at hSw); go_simp; try (with_reducible rfl))
        try simp only [Act.put, List.setIfInBounds_toArray, List.set_cons_zero, List.set_cons_succ]
        refine wpAnyH_done (by kernel_rfl) ?_ _
        have hkw : KeptBut w5 w6 (Value.slice ta t2.length tc).ownBlock := (KeptBut.ofDrawn hd _).trans hk6
        have hkb6 : KeptBut w w6 (Value.slice tva t.length tvc).ownBlock := hkb.then hkw (fun b hb => by
          rcases htl2 b hb with h | h
          · exact .inl h
          · exact .inr (by omega))
        have hkvt : ∀ b, (Value.slice kva k kvc).ownBlock = some b → (Value.slice ta t2.length tc).ownBlock ≠ some b := by
          obtain ⟨xs, vs, _, _, _, _, hXu, _⟩ := htr
          exact fun b hb he => hXu b he (.inr hb)
        have hkd6 := Own.kept hkd hkw hkvt
        have hpr6 := hpr.keep (w' := w6) (fun b hb => hkw.2.2.2.2 b (by omega) (fun e => by
          rcases htl2 b e.symm with h | h
          · have := htl b h; omega
          · omega))
        have hB6 : wp.heap.size ≤ w6.heap.size := Nat.le_trans hpw5 hkw.2.2.2.1
        obtain ⟨t3, hcb⟩ := HSP.out
        have HX := Lib.hid (HNX.out t3 hcb)
        have hm6 := HLN.out t3 hcb
        rw [hcb] at hr
        simp only [Option.getD_some] at hr
        clear hcb HSP HNX HLN hih htr
        obtain ⟨ra, rc, rfl⟩ := hr.isSlice
        go_wp2_with (at_builtin; refine wpList_append1b elI64 rfl _ _ rfl hkd6 rfl (by first | rfl | simp) rfl rfl (by omega) hB6 ?_; intro kv' w8 hown8 hkept hmv)
        have htr8 : OwnX (fun b => X b ∨ kv'.ownBlock = some b) w8 B 126 2 (.slice ra t3.length rc) t3 :=
          ((hr.sub (Y := fun b => X b ∨ (Value.slice kva k kvc).ownBlock = some b ∨ kv'.ownBlock = some b) (fun b h1 h2 => by
            rcases h1 with h1 | h1 | h1
            · exact .inl h1
            · exact .inr h1
            · rcases moved_or hmv (show w6.heap.size ≤ _ by simp) b h1 with h | h
              · exact .inr h
              · omega)).kept hkept (fun b hb => .inr (.inl hb))).sub (fun b h1 _ => by
            rcases h1 with h1 | h1
            · exact .inl h1
            · exact .inr (.inr h1))
        go_roundw
        case rel => exact ⟨k + 1, t3, _, by go_num, by omega, HX, htr8, (fun b hb => by
            rcases hloc b hb with h | h
            · exact htl2 b h
            · rw [hd.heap] at h; exact .inr (by omega)), by rw [List.map_append]; exact hown8, hkb6.then hkept (fun b hb => .inr (by have := (hkd6.lt b hb).1; omega)), Nat.le_trans hB6 hkept.2.2.2.1, hpr6.keep (fun b hb => hkept.2.2.2.2 b (by omega) (fun e => by have := (hkd6.lt b e.symm).1; omega)), (World.cell?_of_block (a := ⟨w.heap.size, 0, none⟩) (hkept.2.2.2.2 w.heap.size (cell_lt cg) (fun e => by have := (hkd6.lt _ e.symm).1; omega))).trans cg⟩
        case measure => simp [intOf]; omega
end Go.Proofs.YthpbeiihlembnaaDoor
