/- The reference's search for planar systems: the walk of the search, its rounds. -/
import Derived.Test.YtdbanndcdbikmaaGreatDoorEmbV
namespace Go.Proofs.YtdbanndcdbikmaaGreatDoor
open Go.RowKit
set_option maxRecDepth 100000 in
set_option maxHeartbeats 16000000 in
theorem search_cons {n : Nat} (hn : 0 < n) (h8 : n ≤ 8) {e : Nat × Nat} {es : List (Nat × Nat)} (IH : SearchP n es) : SearchP n (e :: es) := fun L t m b S1 S2 S3 ev tv bv w hE hH hB hev htv hbv hS3 => by
  have htl := hH.len
  have hrot := hH.rot
  subst htl
  obtain ⟨eb, eo, ecap, rb, ro, rc, rfl, ce0, cr0, cr1, hSe, hSr⟩ := hev.pairS (i := 0) (by simp)
  obtain ⟨ta, tc, rfl⟩ := htv.slice
  obtain ⟨ba, bc, rfl⟩ := hbv.slice
  have he := hE.lt e (by simp)
  obtain ⟨hu, hv, hne⟩ := he
  simp only [List.getElem_cons_zero] at cr0 cr1
  rw [List.length_map] at *
  rw [List.length_map] at *
  generalize hN : (e :: es).length = N at *
  have hN1 : N = es.length + 1 := by rw [← hN]; rfl
  have hbox := (own2_new w w.heap.size 76 (.int .i64 m) (.slice ba b.length bc) (Nat.le_refl _)).alloc (.cells #[.int .i64 0, .slice none 0 0] 76)
  have hres := own2_new (w.alloc (.cells #[.int .i64 m, .slice ba b.length bc] 76)) w.heap.size 76 (.int .i64 0) (.slice none 0 0) (by simp)
  rw [show (w.alloc (.cells #[.int .i64 m, .slice ba b.length bc] 76)).heap.size = w.heap.size + 1 by simp] at hres
  have hq0 : Below w.heap.size w ((w.alloc (.cells #[.int .i64 m, .slice ba b.length bc] 76)).alloc (.cells #[.int .i64 0, .slice none 0 0] 76)) := ((Below.refl _ _).alloc (Nat.le_refl _) _).alloc (by simp) _
  have htw := l22Twice_any hrot hn (htv.below hq0 (Nat.le_refl _))
  have HFIN := Lib.hid (fun (W : World) (m m0 : Int) (ba : Option Addr) (bn bc : Nat) (z : Value) (b : List (List Nat)) (hq : Below w.heap.size w W) h1 h2 h3 => ways_fin (S3 := S3) (w := w) (W := W) (m := m) (m0 := m0) (ba := ba) (bn := bn) (bc := bc) (z := z) (b := b) hS3 hq h1 h2 h3)
  have hbl0 := (hbv.below hq0 (Nat.le_refl _)).weak (S' := fun x => (S3 x ∨ w.heap.size + 2 ≤ x) ∧ x < ((w.alloc (.cells #[.int .i64 m, .slice ba b.length bc] 76)).alloc (.cells #[.int .i64 0, .slice none 0 0] 76)).heap.size) (fun x hx => ⟨.inl hx, by have := hS3 x hx; simp; omega⟩)
  have hz2 : w.heap.size + 2 ≤ ((w.alloc (.cells #[.int .i64 m, .slice ba b.length bc] 76)).alloc (.cells #[.int .i64 0, .slice none 0 0] 76)).heap.size := by simp
  have HTV := Lib.hid (fun (W : World) (hb : Below w.heap.size w W) => htv.below hb (Nat.le_refl _))
  have HEV := Lib.hid (fun (W : World) (hb : Below w.heap.size w W) => show SlR S1 W (.slice (if ecap = 1 then some ⟨eb, eo, none⟩ else some ⟨eb, eo + 1, none⟩) (N - 1) (ecap - 1)) (rowsP es) from (SlR.tailE (r := rowP e) hev).below hb (Nat.le_refl _))
  have HCE := Lib.hid (fun (W : World) (hb : Below w.heap.size w W) => show W.cell? ⟨eb, eo, none⟩ = some (.slice (some ⟨rb, ro, none⟩) 2 rc) ∧ W.cell? ⟨rb, ro, none⟩ = some (.int .i64 ((e.1 : Nat) : Int)) ∧ W.cell? ⟨rb, ro + 1, none⟩ = some (.int .i64 ((e.2 : Nat) : Int)) from
    ⟨(hb.cell (p := ⟨eb, eo, none⟩) (by have := cell_lt ce0; simpa using this)).trans (by simpa using ce0), (hb.cell (p := ⟨rb, ro, none⟩) (cell_lt cr0)).trans cr0, (hb.cell (p := ⟨rb, ro + 1, none⟩) (cell_lt cr1)).trans cr1⟩)
  have hecap : N ≤ ecap ∧ ecap ≤ 9223372036854775807 := by
    obtain ⟨a', b', off', cap', f', hve, hle, -, -⟩ := hev
    simp only [Value.slice.injEq] at hve
    rw [rowsP_len] at hle
    omega
  have H0 := Lib.hid (fun (h : twiceI t ≠ 0) => show (srchS (e :: es) t).foldl stepW (m, b) = (m, b) by rw [srchS, if_neg h]; rfl)
  have H1 := Lib.hid (fun (h : twiceI t = 0) => srchS_cons (e := e) (es := es) h (m, b))
  have HLV := Lib.hid (fun (i k : Nat) => show (∀ a ∈ lvE e.1 e.2 es t i k, a.length = t.length) ∧ HasE t.length (stepE t e.1 e.2 i k) (L ++ [(e.1, e.2)]) from ⟨srchS_rows hE.next (hH.step hE i k), hH.step hE i k⟩)
  have HEN := Lib.hid hE.next
  have HROW := Lib.hid (fun k => rot_row hrot k)
  have h16 := hrot.le
  clear hev htv hbv hE hH ce0 cr0 cr1
  go_enter Tryz.func86, Tryz.ntmps86
  go_wp2_with fail
  refine htw.mono ?_
  rintro e1 w1 ⟨rfl, hb1⟩
  have hq1 := hq0.trans (hb1.mono hq0.size)
  have hbox := hbox.below hb1 (Nat.le_refl _)
  have hres := hres.below hb1 (Nat.le_refl _)
  have hbl := (hbl0.below hb1 (Nat.le_refl _)).weak (S' := fun x => (S3 x ∨ w.heap.size + 2 ≤ x) ∧ x < w1.heap.size) (fun x hx => ⟨hx.1, Nat.lt_of_lt_of_le hx.2 hb1.size⟩)
  have hz3 : w.heap.size + 2 ≤ w1.heap.size := Nat.le_trans hz2 hb1.size
  clear htw hq0 hb1 hbl0 hz2
  by_cases h0 : twiceI t = 0
  case neg =>
    have hne : (twiceI t != 0) = true := by simpa using h0
    have HR := Lib.hid (H0.out h0)
    obtain ⟨k1, k2, k3, k4⟩ := HFIN.out w1 m 0 ba b.length bc _ b hq1 hbox hres hbl
    obtain ⟨c0, c1, -, -, -, -⟩ := own2_cell hbox
    obtain ⟨d0, d1, f0, f1, -, -⟩ := own2_cell hres
    generalize twiceI t = z at *
    clear h0 H1 H0 HFIN hbl HTV HROW hbox hres hN hN1 HEV HLV HEN
    go_wp2
    refine bodyPost_ret (v := .agg #[.int .i64 m, .slice ba b.length bc]) (by simp [results, Tryz.results86, go_sem, k3, k4]) rfl ?_
    rw [HR.out]
    exact ⟨_, rfl, k1, k2⟩
  have hz0 : (twiceI t != 0) = false := by rw [h0]; rfl
  have HR := Lib.hid (H1.out h0)
  generalize twiceI t = z at *
  clear h0 H1 H0
  obtain ⟨tb, toff, htc, htce, HROWS⟩ : ∃ tb to : Nat, ∃ c, (Value.slice ta t.length tc = .slice (some ⟨tb, to, none⟩) t.length c) ∧ ∀ k (hk : k < t.length) (W : World), Below w.heap.size w W → ∃ fa fc, W.cell? ⟨tb, to + k, none⟩ = some (.slice fa (t.getD k []).length fc) := by
    have h := HTV.out
    obtain ⟨a, tb, to, cap, f, he, hl, ha, hc⟩ := h w (Below.refl _ _)
    rw [List.length_map] at he ha
    refine ⟨tb, to, cap, by rw [he, (ha hn).1], fun k hk W hb => ?_⟩
    have h2 := hc k (by simpa using hk)
    obtain ⟨fa, fc, hfe⟩ := h2.2.slice
    have h3 := (hb.cell (p := ⟨tb, to + k, none⟩) (cell_lt h2.1)).trans h2.1
    rw [hfe] at h3
    refine ⟨fa, fc, ?_⟩
    rw [h3]
    simp [natsI_len, hk]
  simp only [Value.slice.injEq, true_and] at htce
  obtain ⟨rfl, rfl⟩ := htce
  obtain ⟨e0, e1', e2'⟩ := HCE.out w1 hq1
  have HRW := Lib.hid HROWS
  have hN0 : ((N : Int) == 0) = false := by rw [beq_eq_false_iff_ne]; omega
  have hN2 : (N == 0) = false := by rw [beq_eq_false_iff_ne]; omega
  have hN3 : (0 : Int) < (N : Int) := by omega
  have hNp : 0 < N := by omega
  have hN4 : (1 : Int) ≤ (N : Int) := by omega
  have hN5 : (1 : Int) ≤ (ecap : Int) := by omega
  have hN6 : 1 ≤ ecap := by omega
  have HNL := Lib.hid hN1
  obtain ⟨u, v⟩ := e
  simp only at *
  obtain ⟨ad, had⟩ : ∃ ad, (if ecap = 1 then some (⟨eb, eo, none⟩ : Addr) else some ⟨eb, eo + 1, none⟩) = ad := ⟨_, rfl⟩
  rw [had] at HEV
  have hfu := rot_row hrot u
  have hfv := rot_row hrot v
  have HGV := Lib.hid (fun (i : Nat) => show (t.set u (insN (t.getD u []) i v)).getD v [] = t.getD v [] by rw [getD_set _ _ _ hu, if_neg (fun h => hne h.symm)])
  obtain ⟨lu, hlu⟩ : ∃ x, x = (t.getD u []).length := ⟨_, rfl⟩
  obtain ⟨lv, hlv⟩ : ∃ x, x = (t.getD v []).length := ⟨_, rfl⟩
  have HRU := Lib.hid (fun (W : World) (hb : Below w.heap.size w W) => by have := HRW.out u hu W hb; rw [← hlu] at this; exact this)
  have HRV := Lib.hid (fun (W : World) (hb : Below w.heap.size w W) => by have := HRW.out v hv W hb; rw [← hlv] at this; exact this)
  have HLU := Lib.hid hlu
  have HLV2 := Lib.hid hlv
  rw [← hlu, ← hlv] at HR
  rw [← hlu] at hfu
  rw [← hlv] at hfv
  have hP0 : RowKit.Hid (outE u v es t (max 1 lv) (m, b) 0 = (m, b)) := Lib.hid rfl
  have hBL0 : RowKit.Hid (BestL t.length b) := Lib.hid hB
  clear HROWS HRW hN hN1 hlu hlv HROW hB
  go_wp2
  go_loopw [11] (fun iv wr => ∃ (i : Nat) (m' : Int) (b' : List (List Nat)) (ba' : Option Addr) (bc' : Nat), i ≤ max 1 lu ∧ iv = .int .i64 (i : Int) ∧ RowKit.Hid (outE u v es t (max 1 lv) (m, b) i = (m', b')) ∧ RowKit.Hid (BestL t.length b') ∧ RowO (fun x => (S3 x ∨ w.heap.size + 2 ≤ x) ∧ x < wr.heap.size) wr (.slice ba' b'.length bc') (b'.map natsI) ∧
    Own wr w.heap.size 76 2 (.slice (some ⟨w.heap.size, 0, none⟩) 1 1) 1 [.int .i64 m', .slice ba' b'.length bc'] ∧ Own wr w.heap.size 76 2 (.slice (some ⟨w.heap.size + 1, 0, none⟩) 1 1) 1 [.int .i64 0, .slice none 0 0] ∧ Below w.heap.size w wr) (fun iv _ => max 1 lu - (RowKit.intOf iv).toNat)
  case atStart => exact ⟨0, m, b, ba, bc, Nat.zero_le _, rfl, hP0, hBL0, hbl, hbox, hres, hq1⟩
  case round =>
    clear hP0 hBL0 hbl hbox hres hq1 e0 e1' e2' hz3
    obtain ⟨i, m', b', ba', bc', hi, rfl, HP, HB, hbl, hbox, hres, hq⟩ := hrel
    obtain ⟨fa, fc, d1⟩ := HRU.out wr hq
    by_cases hia : i < max 1 lu
    case neg =>
      have hie : i = max 1 lu := by omega
      have HRR := Lib.hid (show (srchS ((u, v) :: es) t).foldl stepW (m, b) = (m', b') by rw [HR.out, ← hie, HP.out])
      obtain ⟨k1, k2, k3, k4⟩ := HFIN.out wr m' 0 ba' b'.length bc' _ b' hq hbox hres hbl
      obtain ⟨c0, c1, -, -, -, -⟩ := own2_cell hbox
      obtain ⟨d0, d2, f0, f1, -, -⟩ := own2_cell hres
      have hi0 : ((i : Int) == 0) = false := by rw [beq_eq_false_iff_ne]; omega
      have hi1 : (i == 0) = false := by rw [beq_eq_false_iff_ne]; omega
      have hil : decide ((i : Int) < (lu : Int)) = false := decide_eq_false (by omega)
      have hil2 : decide (i < lu) = false := decide_eq_false (by omega)
      have hil3 : ¬ i < lu := by omega
      have hil4 : ¬ (i : Int) < (lu : Int) := by omega
      clear hie HFIN hbox hres hbl HP HB HR
      go_wp2
      refine bodyPost_ret (v := .agg #[.int .i64 m', .slice ba' b'.length bc']) (by simp [results, Tryz.results86, go_sem, k3, k4]) rfl ?_
      rw [HRR.out]
      exact ⟨_, rfl, k1, k2⟩
    have HQ0 : RowKit.Hid (inE u v es t (max 1 lv) (m, b) i 0 = (m', b')) := Lib.hid (by rw [inE_zero]; exact HP.out)
    have hc0 : ((i : Int) == 0) = true ∧ (i == 0) = true ∨ ((i : Int) == 0) = false ∧ (i == 0) = false ∧ i < lu ∧ (i : Int) < (lu : Int) := by
      by_cases h : i = 0
      · subst h; exact .inl ⟨rfl, rfl⟩
      · exact .inr ⟨by rw [beq_eq_false_iff_ne]; omega, by rw [beq_eq_false_iff_ne]; exact h, by omega, by omega⟩
    rcases hc0 with ⟨p1, p2⟩ | ⟨p1, p2, p3, p4⟩
    · skip
      go_wp2
      go_loopw [12] (fun kv wr => ∃ (k : Nat) (m' : Int) (b' : List (List Nat)) (ba' : Option Addr) (bc' : Nat), k ≤ max 1 lv ∧ kv = .int .i64 (k : Int) ∧ RowKit.Hid (inE u v es t (max 1 lv) (m, b) i k = (m', b')) ∧ RowKit.Hid (BestL t.length b') ∧ RowO (fun x => (S3 x ∨ w.heap.size + 2 ≤ x) ∧ x < wr.heap.size) wr (.slice ba' b'.length bc') (b'.map natsI) ∧
        Own wr w.heap.size 76 2 (.slice (some ⟨w.heap.size, 0, none⟩) 1 1) 1 [.int .i64 m', .slice ba' b'.length bc'] ∧ Own wr w.heap.size 76 2 (.slice (some ⟨w.heap.size + 1, 0, none⟩) 1 1) 1 [.int .i64 0, .slice none 0 0] ∧ Below w.heap.size w wr) (fun kv _ => max 1 lv - (RowKit.intOf kv).toNat)
      case atStart => exact ⟨0, m', b', ba', bc', Nat.zero_le _, rfl, HQ0, HB, hbl, hbox, hres, hq⟩
      case round =>
        clear HQ0 hbl hbox hres hq d1 HP HB
        clear m' b' ba' bc'
        obtain ⟨k, m', b', ba', bc', hk, rfl, HQ, HB, hbl, hbox, hres, hq⟩ := hrel
        obtain ⟨fa2, fc2, d2⟩ := HRV.out wr hq
        by_cases hka : k < max 1 lv
        case neg =>
          have hke : k = max 1 lv := by omega
          have HP2 := Lib.hid (show outE u v es t (max 1 lv) (m, b) (i + 1) = (m', b') by rw [outE_succ, ← HQ.out, hke])
          have hi0 : ((k : Int) == 0) = false := by rw [beq_eq_false_iff_ne]; omega
          have hi1 : (k == 0) = false := by rw [beq_eq_false_iff_ne]; omega
          have hil : decide ((k : Int) < (lv : Int)) = false := decide_eq_false (by omega)
          have hil2 : decide (k < lv) = false := decide_eq_false (by omega)
          have hil3 : ¬ k < lv := by omega
          have hil4 : ¬ (k : Int) < (lv : Int) := by omega
          clear hke HQ
          go_wp2
          go_roundw
          case rel => exact ⟨i + 1, m', b', ba', bc', by omega, by go_num, HP2, HB, hbl, hbox, hres, hq⟩
          case measure => (simp [RowKit.intOf] <;> omega)
        obtain ⟨wi, rfl⟩ : ∃ x : World, x = wr := ⟨_, rfl⟩
        obtain ⟨c0, c1, -, -, -, -⟩ := own2_cell hbox
        have hz4 : w.heap.size + 2 ≤ wi.heap.size := by have := (hres.lt (w.heap.size + 1) rfl).2; omega
        have HP1 := Lib.hid (fun (W : World) (hb : Below w.heap.size w W) => l22Put_any (u := v) (v := u) (i := i) (HTV.out W hb) hu h16 (by rw [← HLU.out]; exact hfu) (by rw [← HLU.out]; exact hia))
        have HP2 := Lib.hid (fun (W : World) (x1 : Value) (hx : SlR (fun b => b < W.heap.size) W x1 ((t.set u (insN (t.getD u []) i v)).map natsI)) => show Calls Tryz.prog 115 #[x1, .int .i64 (v : Int), .int .i64 (k : Int), .int .i64 (u : Int)] W fun e w' => ∃ x, e = .returned x ∧ SlR (fun b => b < w'.heap.size) w' x ((stepE t u v i k).map natsI) ∧ Below W.heap.size W w' from by
          have h := l22Put_any (u := u) (v := v) (i := k) hx (by simpa using hv) (by simpa using h16) (by rw [HGV.out, ← HLV2.out]; exact hfv) (by rw [HGV.out, ← HLV2.out]; exact hka)
          rw [HGV.out] at h
          exact h)
        have HIH := Lib.hid (fun (W : World) (x2 : Value) (hb : Below w.heap.size w W) (hx : SlR (fun b => b < W.heap.size) W x2 ((stepE t u v i k).map natsI)) (hb2 : RowO (fun x => (S3 x ∨ w.heap.size + 2 ≤ x) ∧ x < W.heap.size) W (.slice ba' b'.length bc') (b'.map natsI)) => show Calls Tryz.prog 86 #[.slice ad (N - 1) (ecap - 1), x2, .agg #[.int .i64 m', .slice ba' b'.length bc']] W fun e w' => ∃ bv', e = .returned (.agg #[.int .i64 ((lvE u v es t i k).foldl stepW (m', b')).1, bv']) ∧ RowO (fun x => (((S3 x ∨ w.heap.size + 2 ≤ x) ∧ x < W.heap.size) ∨ W.heap.size ≤ x) ∧ x < w'.heap.size) w' bv' (((lvE u v es t i k).foldl stepW (m', b')).2.map natsI) ∧ Below W.heap.size W w' from
          IH _ _ m' b' _ _ _ _ _ _ W HEN.out (HLV.out i k).2 HB.out (HEV.out W hb) hx hb2 (fun x hx => hx.2))
        have hk0 : ((k : Int) == 0) = true ∧ (k == 0) = true ∧ k = 0 ∨ ((k : Int) == 0) = false ∧ (k == 0) = false ∧ k < lv ∧ (k : Int) < (lv : Int) := by
          by_cases h : k = 0
          · subst h; exact .inl ⟨rfl, rfl, rfl⟩
          · exact .inr ⟨by rw [beq_eq_false_iff_ne]; omega, by rw [beq_eq_false_iff_ne]; exact h, by omega, by omega⟩
        rcases hk0 with ⟨q1, q2, q3⟩ | ⟨q1, q2, q3, q4⟩
        · clear q3
          go_wp2
          refine wp_region_late (S := (fun w' => w'.cell? ⟨w.heap.size, 0, none⟩ = some (.int .i64 m') ∧ w'.cell? ⟨w.heap.size, 1, none⟩ = some (.slice ba' b'.length bc'))) (late := [13]) (by kernel_rfl) ?_ (fun hHeld => ?_)
          · first | exact ⟨‹_›, ‹_›⟩ | assumption | (simp [*, go_sem])
          have hbd : Below wi.heap.size wi wi.drew := ((Drawn.refl _).drew).below _
          generalize wi.drew = wd at hbd hHeld ⊢
          have hH2 := hHeld
          obtain ⟨g0, g1⟩ := hH2
          refine wpLate_take (i := 0) (v := ?v1) (by simp only [List.getElem?_toArray, List.getElem?_cons_zero]; exact rfl) (by kernel_rfl) (by kernel_rfl) (by kernel_rfl) (by intro _ _ _ h; exact h) (Or.inl ⟨by rfl, ?y1⟩) ?_
          case y1 => (intro w _; go_simp; try (with_reducible rfl))
          try simp only [Act.put, List.setIfInBounds_toArray, List.set_cons_zero, List.set_cons_succ]
          refine wpLate_take (i := 1) (v := ?v2) (by simp only [List.getElem?_toArray, List.getElem?_cons_succ, List.getElem?_cons_zero]; exact rfl) (by kernel_rfl) (by kernel_rfl) (by kernel_rfl) (by intro _ _ _ h; exact h) (Or.inl ⟨by rfl, ?y2⟩) ?_
          case y2 => (intro w _; go_simp; try (with_reducible rfl))
          try simp only [Act.put, List.setIfInBounds_toArray, List.set_cons_zero, List.set_cons_succ]
          refine wpLate_take (i := 2) (v := ?v3) (by simp only [List.getElem?_toArray, List.getElem?_cons_succ, List.getElem?_cons_zero]; exact rfl) (by kernel_rfl) (by kernel_rfl) (by kernel_rfl) (by intro _ _ _ h; exact h) (Or.inl ⟨by rfl, ?y3⟩) ?_
          case y3 => (intro w _; go_simp; try (with_reducible rfl))
          try simp only [Act.put, List.setIfInBounds_toArray, List.set_cons_zero, List.set_cons_succ]
          refine wpLate_take (i := 3) (v := ?v4) (by simp only [List.getElem?_toArray, List.getElem?_cons_succ, List.getElem?_cons_zero]; exact rfl) (by kernel_rfl) (by kernel_rfl) (by kernel_rfl) (by intro _ _ _ h; exact h) (Or.inl ⟨by rfl, ?y4⟩) ?_
          case y4 => (intro w _; go_simp; try (with_reducible rfl))
          try simp only [Act.put, List.setIfInBounds_toArray, List.set_cons_zero, List.set_cons_succ]
          refine wpLate_take (i := 4) (v := ?v5) (by simp only [List.getElem?_toArray, List.getElem?_cons_succ, List.getElem?_cons_zero]; exact rfl) (by kernel_rfl) (by kernel_rfl) (by kernel_rfl) (by intro _ _ _ h; exact h) (Or.inl ⟨by rfl, ?y5⟩) ?_
          case y5 => (intro w _; go_simp; try (with_reducible rfl))
          try simp only [Act.put, List.setIfInBounds_toArray, List.set_cons_zero, List.set_cons_succ]
          refine wpLate_take (i := 5) (v := ?v6) (by simp only [List.getElem?_toArray, List.getElem?_cons_succ, List.getElem?_cons_zero]; exact rfl) (by kernel_rfl) (by kernel_rfl) (by kernel_rfl) (by intro _ _ _ h; exact h) (Or.inl ⟨by rfl, ?y6⟩) ?_
          case y6 => (intro w _; go_simp; try (with_reducible rfl))
          try simp only [Act.put, List.setIfInBounds_toArray, List.set_cons_zero, List.set_cons_succ]
          refine wpLate_take (i := 7) (v := ?v7) (by simp only [List.getElem?_toArray, List.getElem?_cons_succ, List.getElem?_cons_zero]; exact rfl) (by kernel_rfl) (by kernel_rfl) (by kernel_rfl) (by intro _ _ _ h; exact h) (Or.inl ⟨by rfl, ?y7⟩) ?_
          case y7 => (intro w _; go_simp; try (with_reducible rfl))
          try simp only [Act.put, List.setIfInBounds_toArray, List.set_cons_zero, List.set_cons_succ]
          refine wpLate_take (i := 8) (v := ?v8) (by simp only [List.getElem?_toArray, List.getElem?_cons_succ, List.getElem?_cons_zero]; exact rfl) (by kernel_rfl) (by kernel_rfl) (by kernel_rfl) (by intro _ _ _ h; exact h) (Or.inl ⟨by rfl, ?y8⟩) ?_
          case y8 => (intro w _; go_simp; try (with_reducible rfl))
          try simp only [Act.put, List.setIfInBounds_toArray, List.set_cons_zero, List.set_cons_succ]
          refine wpLate_take (i := 9) (v := ?v9) (by simp only [List.getElem?_toArray, List.getElem?_cons_succ, List.getElem?_cons_zero]; exact rfl) (by kernel_rfl) (by kernel_rfl) (by kernel_rfl) (by intro _ _ _ h; exact h) (Or.inl ⟨by rfl, ?y9⟩) ?_
          case y9 => (intro w _; go_simp; try (with_reducible rfl))
          try simp only [Act.put, List.setIfInBounds_toArray, List.set_cons_zero, List.set_cons_succ]
          refine wpLate_load (i := 11) (v := ?v10) (by simp only [List.getElem?_toArray, List.getElem?_cons_succ, List.getElem?_cons_zero]; exact rfl) (by kernel_rfl) (by kernel_rfl) (by kernel_rfl) (by kernel_rfl) (by intro _ _ _ h; exact h) (Or.inl ⟨by rfl, ?y10⟩) hHeld ?_
          case y10 => (intro w hSw; (try dsimp only at hSw); go_simp; try (with_reducible rfl))
          try simp only [Act.put, List.setIfInBounds_toArray, List.set_cons_zero, List.set_cons_succ]
          refine wpLate_one (i := 6) (by kernel_rfl) (by simp only [List.getElem?_toArray, List.getElem?_cons_succ, List.getElem?_cons_zero]; exact rfl) (by kernel_rfl) (fun K hK => ?_)
          go_simp
          refine (HP1.out wd (hq.trans (hbd.mono hq.size))).mono ?_
          rintro e wy ⟨x1, rfl, hx1, hb5⟩
          have hbd := hbd.trans (hb5.mono hbd.size)
          clear hb5 g0 g1
          obtain ⟨wd, rfl⟩ : ∃ x, x = wy := ⟨_, rfl⟩
          have g0 := (hbd.cell (cell_lt c0)).trans c0
          have g1 := (hbd.cell (cell_lt c1)).trans c1
          try dsimp only
          refine hK.out _ _ ?h12 (fun hHeld => ?_)
          case h12 => first | exact ⟨‹_›, ‹_›⟩ | assumption | (simp [*, go_sem])
          clear hK K
          try simp only [Act.put, List.setIfInBounds_toArray, List.set_cons_zero, List.set_cons_succ]
          refine wpLate_one (i := 10) (by kernel_rfl) (by simp only [List.getElem?_toArray, List.getElem?_cons_succ, List.getElem?_cons_zero]; exact rfl) (by kernel_rfl) (fun K hK => ?_)
          go_simp
          refine (HP2.out wd x1 hx1).mono ?_
          rintro e wy ⟨x2, rfl, hx2, hb5⟩
          have hbd := hbd.trans (hb5.mono hbd.size)
          clear hb5 g0 g1
          obtain ⟨wd, rfl⟩ : ∃ x, x = wy := ⟨_, rfl⟩
          have g0 := (hbd.cell (cell_lt c0)).trans c0
          have g1 := (hbd.cell (cell_lt c1)).trans c1
          try dsimp only
          refine hK.out _ _ ?h14 (fun hHeld => ?_)
          case h14 => first | exact ⟨‹_›, ‹_›⟩ | assumption | (simp [*, go_sem])
          clear hK K
          try simp only [Act.put, List.setIfInBounds_toArray, List.set_cons_zero, List.set_cons_succ]
          refine wpLate_one (i := 12) (by kernel_rfl) (by simp only [List.getElem?_toArray, List.getElem?_cons_succ, List.getElem?_cons_zero]; exact rfl) (by kernel_rfl) (fun K hK => ?_)
          go_simp
          refine (HIH.out wd x2 (hq.trans (hbd.mono hq.size)) hx2 ((hbl.below hbd (Nat.le_refl _)).weak fun x hx => ⟨hx.1, Nat.lt_of_lt_of_le hx.2 hbd.size⟩)).mono ?_
          rintro e wy ⟨x3, rfl, hx3, hb5⟩
          have hwd := hbd.size
          have hbd := hbd.trans (hb5.mono hbd.size)
          clear g0 g1
          have g0 := (hbd.cell (cell_lt c0)).trans c0
          have g1 := (hbd.cell (cell_lt c1)).trans c1
          obtain ⟨xa, xc, rfl⟩ := hx3.slice
          rw [List.length_map] at hx3
          try dsimp only
          refine hK.out _ _ ?h16 (fun hHeld => ?_)
          case h16 => first | exact ⟨‹_›, ‹_›⟩ | assumption | (simp [*, go_sem])
          clear hK K
          try simp only [Act.put, List.setIfInBounds_toArray, List.set_cons_zero, List.set_cons_succ]
          refine wpLate_late (i := 13) (by kernel_rfl) (by simp only [List.getElem?_toArray, List.getElem?_cons_succ, List.getElem?_cons_zero]; exact rfl) (by kernel_rfl) (fun K hK => ?_)
          have hbxd := hbox.below hbd (Nat.le_refl _)
          obtain ⟨k0, k1, f0, f1, -, -⟩ := own2_cell hbxd
          go_simp
          try dsimp only
          refine hK.out _ _ ?_
          clear hK K
          try simp only [Act.put, List.setIfInBounds_toArray, List.set_cons_zero, List.set_cons_succ]
          refine wpLate_done (by kernel_rfl) ?_ _
          skip
          have hbx9 := own2_set hbxd (.int .i64 ((lvE u v es t i k).foldl stepW (m', b')).1) (.slice xa ((lvE u v es t i k).foldl stepW (m', b')).2.length xc)
          have hk9 := (KeptBut.set wy w.heap.size 0 (.int .i64 ((lvE u v es t i k).foldl stepW (m', b')).1)).trans (KeptBut.set (wy.setCell ⟨w.heap.size, 0, none⟩ (.int .i64 ((lvE u v es t i k).foldl stepW (m', b')).1)) w.heap.size 1 (.slice xa ((lvE u v es t i k).foldl stepW (m', b')).2.length xc))
          have hqy := hq.trans (hbd.mono hq.size)
          have hq9 := hk9.below hqy hqy.size (fun x hx => by have e9 := Option.some.inj hx; omega)
          have hr9 := (hres.below hbd (Nat.le_refl _)).kept hk9 (fun x hx e => by have e1 : w.heap.size + 1 = x := Option.some.inj hx; have e2 : w.heap.size = x := Option.some.inj e; omega)
          have hwi := hq.size
          have hwz : w.heap.size + 2 ≤ wd.heap.size := by have := hz4; omega
          have hb9 := (hx3.keep (fun x hx => hk9.2.2.2.2 x hx.2 (fun e => by have e2 : x = w.heap.size := Option.some.inj e; rcases hx.1 with h | h; rcases h.1 with h | h; have := hS3 x h; omega; omega; omega))).weak (S' := fun x => (S3 x ∨ w.heap.size + 2 ≤ x) ∧ x < ((wy.setCell ⟨w.heap.size, 0, none⟩ (.int .i64 ((lvE u v es t i k).foldl stepW (m', b')).1)).setCell ⟨w.heap.size, 1, none⟩ (.slice xa ((lvE u v es t i k).foldl stepW (m', b')).2.length xc)).heap.size) (fun x hx => ⟨by rcases hx.1 with h | h; exact h.1; exact .inr (by omega), by simpa using hx.2⟩)
          have HQ2 := Lib.hid (show inE u v es t (max 1 lv) (m, b) i (k + 1) = (((lvE u v es t i k).foldl stepW (m', b')).1, ((lvE u v es t i k).foldl stepW (m', b')).2) by rw [inE_succ, HQ.out])
          have HB2 := Lib.hid (bestL_fold (n := t.length) (lvE u v es t i k) (m', b') (HLV.out i k).1 HB.out)
          generalize ((lvE u v es t i k).foldl stepW (m', b')).2 = b9 at *
          generalize ((lvE u v es t i k).foldl stepW (m', b')).1 = m9 at *
          go_wp2
          go_roundw
          case rel => exact ⟨k + 1, m9, b9, xa, xc, by omega, by go_num, HQ2, HB2, hb9, hbx9, hr9, hq9⟩
          case measure => (simp [RowKit.intOf] <;> omega)
        · have q5 : decide ((k : Int) < (lv : Int)) = true := decide_eq_true q4
          have q6 : decide (k < lv) = true := decide_eq_true q3
          go_wp2
          refine wp_region_late (S := (fun w' => w'.cell? ⟨w.heap.size, 0, none⟩ = some (.int .i64 m') ∧ w'.cell? ⟨w.heap.size, 1, none⟩ = some (.slice ba' b'.length bc'))) (late := [13]) (by kernel_rfl) ?_ (fun hHeld => ?_)
          · first | exact ⟨‹_›, ‹_›⟩ | assumption | (simp [*, go_sem])
          have hbd : Below wi.heap.size wi wi.drew := ((Drawn.refl _).drew).below _
          generalize wi.drew = wd at hbd hHeld ⊢
          have hH2 := hHeld
          obtain ⟨g0, g1⟩ := hH2
          refine wpLate_take (i := 0) (v := ?v19) (by simp only [List.getElem?_toArray, List.getElem?_cons_zero]; exact rfl) (by kernel_rfl) (by kernel_rfl) (by kernel_rfl) (by intro _ _ _ h; exact h) (Or.inl ⟨by rfl, ?y19⟩) ?_
          case y19 => (intro w _; go_simp; try (with_reducible rfl))
          try simp only [Act.put, List.setIfInBounds_toArray, List.set_cons_zero, List.set_cons_succ]
          refine wpLate_take (i := 1) (v := ?v20) (by simp only [List.getElem?_toArray, List.getElem?_cons_succ, List.getElem?_cons_zero]; exact rfl) (by kernel_rfl) (by kernel_rfl) (by kernel_rfl) (by intro _ _ _ h; exact h) (Or.inl ⟨by rfl, ?y20⟩) ?_
          case y20 => (intro w _; go_simp; try (with_reducible rfl))
          try simp only [Act.put, List.setIfInBounds_toArray, List.set_cons_zero, List.set_cons_succ]
          refine wpLate_take (i := 2) (v := ?v21) (by simp only [List.getElem?_toArray, List.getElem?_cons_succ, List.getElem?_cons_zero]; exact rfl) (by kernel_rfl) (by kernel_rfl) (by kernel_rfl) (by intro _ _ _ h; exact h) (Or.inl ⟨by rfl, ?y21⟩) ?_
          case y21 => (intro w _; go_simp; try (with_reducible rfl))
          try simp only [Act.put, List.setIfInBounds_toArray, List.set_cons_zero, List.set_cons_succ]
          refine wpLate_take (i := 3) (v := ?v22) (by simp only [List.getElem?_toArray, List.getElem?_cons_succ, List.getElem?_cons_zero]; exact rfl) (by kernel_rfl) (by kernel_rfl) (by kernel_rfl) (by intro _ _ _ h; exact h) (Or.inl ⟨by rfl, ?y22⟩) ?_
          case y22 => (intro w _; go_simp; try (with_reducible rfl))
          try simp only [Act.put, List.setIfInBounds_toArray, List.set_cons_zero, List.set_cons_succ]
          refine wpLate_take (i := 4) (v := ?v23) (by simp only [List.getElem?_toArray, List.getElem?_cons_succ, List.getElem?_cons_zero]; exact rfl) (by kernel_rfl) (by kernel_rfl) (by kernel_rfl) (by intro _ _ _ h; exact h) (Or.inl ⟨by rfl, ?y23⟩) ?_
          case y23 => (intro w _; go_simp; try (with_reducible rfl))
          try simp only [Act.put, List.setIfInBounds_toArray, List.set_cons_zero, List.set_cons_succ]
          refine wpLate_take (i := 5) (v := ?v24) (by simp only [List.getElem?_toArray, List.getElem?_cons_succ, List.getElem?_cons_zero]; exact rfl) (by kernel_rfl) (by kernel_rfl) (by kernel_rfl) (by intro _ _ _ h; exact h) (Or.inl ⟨by rfl, ?y24⟩) ?_
          case y24 => (intro w _; go_simp; try (with_reducible rfl))
          try simp only [Act.put, List.setIfInBounds_toArray, List.set_cons_zero, List.set_cons_succ]
          refine wpLate_take (i := 7) (v := ?v25) (by simp only [List.getElem?_toArray, List.getElem?_cons_succ, List.getElem?_cons_zero]; exact rfl) (by kernel_rfl) (by kernel_rfl) (by kernel_rfl) (by intro _ _ _ h; exact h) (Or.inl ⟨by rfl, ?y25⟩) ?_
          case y25 => (intro w _; go_simp; try (with_reducible rfl))
          try simp only [Act.put, List.setIfInBounds_toArray, List.set_cons_zero, List.set_cons_succ]
          refine wpLate_take (i := 8) (v := ?v26) (by simp only [List.getElem?_toArray, List.getElem?_cons_succ, List.getElem?_cons_zero]; exact rfl) (by kernel_rfl) (by kernel_rfl) (by kernel_rfl) (by intro _ _ _ h; exact h) (Or.inl ⟨by rfl, ?y26⟩) ?_
          case y26 => (intro w _; go_simp; try (with_reducible rfl))
          try simp only [Act.put, List.setIfInBounds_toArray, List.set_cons_zero, List.set_cons_succ]
          refine wpLate_take (i := 9) (v := ?v27) (by simp only [List.getElem?_toArray, List.getElem?_cons_succ, List.getElem?_cons_zero]; exact rfl) (by kernel_rfl) (by kernel_rfl) (by kernel_rfl) (by intro _ _ _ h; exact h) (Or.inl ⟨by rfl, ?y27⟩) ?_
          case y27 => (intro w _; go_simp; try (with_reducible rfl))
          try simp only [Act.put, List.setIfInBounds_toArray, List.set_cons_zero, List.set_cons_succ]
          refine wpLate_load (i := 11) (v := ?v28) (by simp only [List.getElem?_toArray, List.getElem?_cons_succ, List.getElem?_cons_zero]; exact rfl) (by kernel_rfl) (by kernel_rfl) (by kernel_rfl) (by kernel_rfl) (by intro _ _ _ h; exact h) (Or.inl ⟨by rfl, ?y28⟩) hHeld ?_
          case y28 => (intro w hSw; (try dsimp only at hSw); go_simp; try (with_reducible rfl))
          try simp only [Act.put, List.setIfInBounds_toArray, List.set_cons_zero, List.set_cons_succ]
          refine wpLate_one (i := 6) (by kernel_rfl) (by simp only [List.getElem?_toArray, List.getElem?_cons_succ, List.getElem?_cons_zero]; exact rfl) (by kernel_rfl) (fun K hK => ?_)
          go_simp
          refine (HP1.out wd (hq.trans (hbd.mono hq.size))).mono ?_
          rintro e wy ⟨x1, rfl, hx1, hb5⟩
          have hbd := hbd.trans (hb5.mono hbd.size)
          clear hb5 g0 g1
          obtain ⟨wd, rfl⟩ : ∃ x, x = wy := ⟨_, rfl⟩
          have g0 := (hbd.cell (cell_lt c0)).trans c0
          have g1 := (hbd.cell (cell_lt c1)).trans c1
          try dsimp only
          refine hK.out _ _ ?h30 (fun hHeld => ?_)
          case h30 => first | exact ⟨‹_›, ‹_›⟩ | assumption | (simp [*, go_sem])
          clear hK K
          try simp only [Act.put, List.setIfInBounds_toArray, List.set_cons_zero, List.set_cons_succ]
          refine wpLate_one (i := 10) (by kernel_rfl) (by simp only [List.getElem?_toArray, List.getElem?_cons_succ, List.getElem?_cons_zero]; exact rfl) (by kernel_rfl) (fun K hK => ?_)
          go_simp
          refine (HP2.out wd x1 hx1).mono ?_
          rintro e wy ⟨x2, rfl, hx2, hb5⟩
          have hbd := hbd.trans (hb5.mono hbd.size)
          clear hb5 g0 g1
          obtain ⟨wd, rfl⟩ : ∃ x, x = wy := ⟨_, rfl⟩
          have g0 := (hbd.cell (cell_lt c0)).trans c0
          have g1 := (hbd.cell (cell_lt c1)).trans c1
          try dsimp only
          refine hK.out _ _ ?h32 (fun hHeld => ?_)
          case h32 => first | exact ⟨‹_›, ‹_›⟩ | assumption | (simp [*, go_sem])
          clear hK K
          try simp only [Act.put, List.setIfInBounds_toArray, List.set_cons_zero, List.set_cons_succ]
          refine wpLate_one (i := 12) (by kernel_rfl) (by simp only [List.getElem?_toArray, List.getElem?_cons_succ, List.getElem?_cons_zero]; exact rfl) (by kernel_rfl) (fun K hK => ?_)
          go_simp
          refine (HIH.out wd x2 (hq.trans (hbd.mono hq.size)) hx2 ((hbl.below hbd (Nat.le_refl _)).weak fun x hx => ⟨hx.1, Nat.lt_of_lt_of_le hx.2 hbd.size⟩)).mono ?_
          rintro e wy ⟨x3, rfl, hx3, hb5⟩
          have hwd := hbd.size
          have hbd := hbd.trans (hb5.mono hbd.size)
          clear g0 g1
          have g0 := (hbd.cell (cell_lt c0)).trans c0
          have g1 := (hbd.cell (cell_lt c1)).trans c1
          obtain ⟨xa, xc, rfl⟩ := hx3.slice
          rw [List.length_map] at hx3
          try dsimp only
          refine hK.out _ _ ?h34 (fun hHeld => ?_)
          case h34 => first | exact ⟨‹_›, ‹_›⟩ | assumption | (simp [*, go_sem])
          clear hK K
          try simp only [Act.put, List.setIfInBounds_toArray, List.set_cons_zero, List.set_cons_succ]
          refine wpLate_late (i := 13) (by kernel_rfl) (by simp only [List.getElem?_toArray, List.getElem?_cons_succ, List.getElem?_cons_zero]; exact rfl) (by kernel_rfl) (fun K hK => ?_)
          have hbxd := hbox.below hbd (Nat.le_refl _)
          obtain ⟨k0, k1, f0, f1, -, -⟩ := own2_cell hbxd
          go_simp
          try dsimp only
          refine hK.out _ _ ?_
          clear hK K
          try simp only [Act.put, List.setIfInBounds_toArray, List.set_cons_zero, List.set_cons_succ]
          refine wpLate_done (by kernel_rfl) ?_ _
          skip
          have hbx9 := own2_set hbxd (.int .i64 ((lvE u v es t i k).foldl stepW (m', b')).1) (.slice xa ((lvE u v es t i k).foldl stepW (m', b')).2.length xc)
          have hk9 := (KeptBut.set wy w.heap.size 0 (.int .i64 ((lvE u v es t i k).foldl stepW (m', b')).1)).trans (KeptBut.set (wy.setCell ⟨w.heap.size, 0, none⟩ (.int .i64 ((lvE u v es t i k).foldl stepW (m', b')).1)) w.heap.size 1 (.slice xa ((lvE u v es t i k).foldl stepW (m', b')).2.length xc))
          have hqy := hq.trans (hbd.mono hq.size)
          have hq9 := hk9.below hqy hqy.size (fun x hx => by have e9 := Option.some.inj hx; omega)
          have hr9 := (hres.below hbd (Nat.le_refl _)).kept hk9 (fun x hx e => by have e1 : w.heap.size + 1 = x := Option.some.inj hx; have e2 : w.heap.size = x := Option.some.inj e; omega)
          have hwi := hq.size
          have hwz : w.heap.size + 2 ≤ wd.heap.size := by have := hz4; omega
          have hb9 := (hx3.keep (fun x hx => hk9.2.2.2.2 x hx.2 (fun e => by have e2 : x = w.heap.size := Option.some.inj e; rcases hx.1 with h | h; rcases h.1 with h | h; have := hS3 x h; omega; omega; omega))).weak (S' := fun x => (S3 x ∨ w.heap.size + 2 ≤ x) ∧ x < ((wy.setCell ⟨w.heap.size, 0, none⟩ (.int .i64 ((lvE u v es t i k).foldl stepW (m', b')).1)).setCell ⟨w.heap.size, 1, none⟩ (.slice xa ((lvE u v es t i k).foldl stepW (m', b')).2.length xc)).heap.size) (fun x hx => ⟨by rcases hx.1 with h | h; exact h.1; exact .inr (by omega), by simpa using hx.2⟩)
          have HQ2 := Lib.hid (show inE u v es t (max 1 lv) (m, b) i (k + 1) = (((lvE u v es t i k).foldl stepW (m', b')).1, ((lvE u v es t i k).foldl stepW (m', b')).2) by rw [inE_succ, HQ.out])
          have HB2 := Lib.hid (bestL_fold (n := t.length) (lvE u v es t i k) (m', b') (HLV.out i k).1 HB.out)
          generalize ((lvE u v es t i k).foldl stepW (m', b')).2 = b9 at *
          generalize ((lvE u v es t i k).foldl stepW (m', b')).1 = m9 at *
          go_wp2
          go_roundw
          case rel => exact ⟨k + 1, m9, b9, xa, xc, by omega, by go_num, HQ2, HB2, hb9, hbx9, hr9, hq9⟩
          case measure => (simp [RowKit.intOf] <;> omega)
    · have p5 : decide ((i : Int) < (lu : Int)) = true := decide_eq_true p4
      have p6 : decide (i < lu) = true := decide_eq_true p3
      go_wp2
      go_loopw [12] (fun kv wr => ∃ (k : Nat) (m' : Int) (b' : List (List Nat)) (ba' : Option Addr) (bc' : Nat), k ≤ max 1 lv ∧ kv = .int .i64 (k : Int) ∧ RowKit.Hid (inE u v es t (max 1 lv) (m, b) i k = (m', b')) ∧ RowKit.Hid (BestL t.length b') ∧ RowO (fun x => (S3 x ∨ w.heap.size + 2 ≤ x) ∧ x < wr.heap.size) wr (.slice ba' b'.length bc') (b'.map natsI) ∧
        Own wr w.heap.size 76 2 (.slice (some ⟨w.heap.size, 0, none⟩) 1 1) 1 [.int .i64 m', .slice ba' b'.length bc'] ∧ Own wr w.heap.size 76 2 (.slice (some ⟨w.heap.size + 1, 0, none⟩) 1 1) 1 [.int .i64 0, .slice none 0 0] ∧ Below w.heap.size w wr) (fun kv _ => max 1 lv - (RowKit.intOf kv).toNat)
      case atStart => exact ⟨0, m', b', ba', bc', Nat.zero_le _, rfl, HQ0, HB, hbl, hbox, hres, hq⟩
      case round =>
        clear HQ0 hbl hbox hres hq d1 HP HB
        clear m' b' ba' bc'
        obtain ⟨k, m', b', ba', bc', hk, rfl, HQ, HB, hbl, hbox, hres, hq⟩ := hrel
        obtain ⟨fa2, fc2, d2⟩ := HRV.out wr hq
        by_cases hka : k < max 1 lv
        case neg =>
          have hke : k = max 1 lv := by omega
          have HP2 := Lib.hid (show outE u v es t (max 1 lv) (m, b) (i + 1) = (m', b') by rw [outE_succ, ← HQ.out, hke])
          have hi0 : ((k : Int) == 0) = false := by rw [beq_eq_false_iff_ne]; omega
          have hi1 : (k == 0) = false := by rw [beq_eq_false_iff_ne]; omega
          have hil : decide ((k : Int) < (lv : Int)) = false := decide_eq_false (by omega)
          have hil2 : decide (k < lv) = false := decide_eq_false (by omega)
          have hil3 : ¬ k < lv := by omega
          have hil4 : ¬ (k : Int) < (lv : Int) := by omega
          clear hke HQ
          go_wp2
          go_roundw
          case rel => exact ⟨i + 1, m', b', ba', bc', by omega, by go_num, HP2, HB, hbl, hbox, hres, hq⟩
          case measure => (simp [RowKit.intOf] <;> omega)
        obtain ⟨wi, rfl⟩ : ∃ x : World, x = wr := ⟨_, rfl⟩
        obtain ⟨c0, c1, -, -, -, -⟩ := own2_cell hbox
        have hz4 : w.heap.size + 2 ≤ wi.heap.size := by have := (hres.lt (w.heap.size + 1) rfl).2; omega
        have HP1 := Lib.hid (fun (W : World) (hb : Below w.heap.size w W) => l22Put_any (u := v) (v := u) (i := i) (HTV.out W hb) hu h16 (by rw [← HLU.out]; exact hfu) (by rw [← HLU.out]; exact hia))
        have HP2 := Lib.hid (fun (W : World) (x1 : Value) (hx : SlR (fun b => b < W.heap.size) W x1 ((t.set u (insN (t.getD u []) i v)).map natsI)) => show Calls Tryz.prog 115 #[x1, .int .i64 (v : Int), .int .i64 (k : Int), .int .i64 (u : Int)] W fun e w' => ∃ x, e = .returned x ∧ SlR (fun b => b < w'.heap.size) w' x ((stepE t u v i k).map natsI) ∧ Below W.heap.size W w' from by
          have h := l22Put_any (u := u) (v := v) (i := k) hx (by simpa using hv) (by simpa using h16) (by rw [HGV.out, ← HLV2.out]; exact hfv) (by rw [HGV.out, ← HLV2.out]; exact hka)
          rw [HGV.out] at h
          exact h)
        have HIH := Lib.hid (fun (W : World) (x2 : Value) (hb : Below w.heap.size w W) (hx : SlR (fun b => b < W.heap.size) W x2 ((stepE t u v i k).map natsI)) (hb2 : RowO (fun x => (S3 x ∨ w.heap.size + 2 ≤ x) ∧ x < W.heap.size) W (.slice ba' b'.length bc') (b'.map natsI)) => show Calls Tryz.prog 86 #[.slice ad (N - 1) (ecap - 1), x2, .agg #[.int .i64 m', .slice ba' b'.length bc']] W fun e w' => ∃ bv', e = .returned (.agg #[.int .i64 ((lvE u v es t i k).foldl stepW (m', b')).1, bv']) ∧ RowO (fun x => (((S3 x ∨ w.heap.size + 2 ≤ x) ∧ x < W.heap.size) ∨ W.heap.size ≤ x) ∧ x < w'.heap.size) w' bv' (((lvE u v es t i k).foldl stepW (m', b')).2.map natsI) ∧ Below W.heap.size W w' from
          IH _ _ m' b' _ _ _ _ _ _ W HEN.out (HLV.out i k).2 HB.out (HEV.out W hb) hx hb2 (fun x hx => hx.2))
        have hk0 : ((k : Int) == 0) = true ∧ (k == 0) = true ∧ k = 0 ∨ ((k : Int) == 0) = false ∧ (k == 0) = false ∧ k < lv ∧ (k : Int) < (lv : Int) := by
          by_cases h : k = 0
          · subst h; exact .inl ⟨rfl, rfl, rfl⟩
          · exact .inr ⟨by rw [beq_eq_false_iff_ne]; omega, by rw [beq_eq_false_iff_ne]; exact h, by omega, by omega⟩
        rcases hk0 with ⟨q1, q2, q3⟩ | ⟨q1, q2, q3, q4⟩
        · clear q3
          go_wp2
          refine wp_region_late (S := (fun w' => w'.cell? ⟨w.heap.size, 0, none⟩ = some (.int .i64 m') ∧ w'.cell? ⟨w.heap.size, 1, none⟩ = some (.slice ba' b'.length bc'))) (late := [13]) (by kernel_rfl) ?_ (fun hHeld => ?_)
          · first | exact ⟨‹_›, ‹_›⟩ | assumption | (simp [*, go_sem])
          have hbd : Below wi.heap.size wi wi.drew := ((Drawn.refl _).drew).below _
          generalize wi.drew = wd at hbd hHeld ⊢
          have hH2 := hHeld
          obtain ⟨g0, g1⟩ := hH2
          refine wpLate_take (i := 0) (v := ?v37) (by simp only [List.getElem?_toArray, List.getElem?_cons_zero]; exact rfl) (by kernel_rfl) (by kernel_rfl) (by kernel_rfl) (by intro _ _ _ h; exact h) (Or.inl ⟨by rfl, ?y37⟩) ?_
          case y37 => (intro w _; go_simp; try (with_reducible rfl))
          try simp only [Act.put, List.setIfInBounds_toArray, List.set_cons_zero, List.set_cons_succ]
          refine wpLate_take (i := 1) (v := ?v38) (by simp only [List.getElem?_toArray, List.getElem?_cons_succ, List.getElem?_cons_zero]; exact rfl) (by kernel_rfl) (by kernel_rfl) (by kernel_rfl) (by intro _ _ _ h; exact h) (Or.inl ⟨by rfl, ?y38⟩) ?_
          case y38 => (intro w _; go_simp; try (with_reducible rfl))
          try simp only [Act.put, List.setIfInBounds_toArray, List.set_cons_zero, List.set_cons_succ]
          refine wpLate_take (i := 2) (v := ?v39) (by simp only [List.getElem?_toArray, List.getElem?_cons_succ, List.getElem?_cons_zero]; exact rfl) (by kernel_rfl) (by kernel_rfl) (by kernel_rfl) (by intro _ _ _ h; exact h) (Or.inl ⟨by rfl, ?y39⟩) ?_
          case y39 => (intro w _; go_simp; try (with_reducible rfl))
          try simp only [Act.put, List.setIfInBounds_toArray, List.set_cons_zero, List.set_cons_succ]
          refine wpLate_take (i := 3) (v := ?v40) (by simp only [List.getElem?_toArray, List.getElem?_cons_succ, List.getElem?_cons_zero]; exact rfl) (by kernel_rfl) (by kernel_rfl) (by kernel_rfl) (by intro _ _ _ h; exact h) (Or.inl ⟨by rfl, ?y40⟩) ?_
          case y40 => (intro w _; go_simp; try (with_reducible rfl))
          try simp only [Act.put, List.setIfInBounds_toArray, List.set_cons_zero, List.set_cons_succ]
          refine wpLate_take (i := 4) (v := ?v41) (by simp only [List.getElem?_toArray, List.getElem?_cons_succ, List.getElem?_cons_zero]; exact rfl) (by kernel_rfl) (by kernel_rfl) (by kernel_rfl) (by intro _ _ _ h; exact h) (Or.inl ⟨by rfl, ?y41⟩) ?_
          case y41 => (intro w _; go_simp; try (with_reducible rfl))
          try simp only [Act.put, List.setIfInBounds_toArray, List.set_cons_zero, List.set_cons_succ]
          refine wpLate_take (i := 5) (v := ?v42) (by simp only [List.getElem?_toArray, List.getElem?_cons_succ, List.getElem?_cons_zero]; exact rfl) (by kernel_rfl) (by kernel_rfl) (by kernel_rfl) (by intro _ _ _ h; exact h) (Or.inl ⟨by rfl, ?y42⟩) ?_
          case y42 => (intro w _; go_simp; try (with_reducible rfl))
          try simp only [Act.put, List.setIfInBounds_toArray, List.set_cons_zero, List.set_cons_succ]
          refine wpLate_take (i := 7) (v := ?v43) (by simp only [List.getElem?_toArray, List.getElem?_cons_succ, List.getElem?_cons_zero]; exact rfl) (by kernel_rfl) (by kernel_rfl) (by kernel_rfl) (by intro _ _ _ h; exact h) (Or.inl ⟨by rfl, ?y43⟩) ?_
          case y43 => (intro w _; go_simp; try (with_reducible rfl))
          try simp only [Act.put, List.setIfInBounds_toArray, List.set_cons_zero, List.set_cons_succ]
          refine wpLate_take (i := 8) (v := ?v44) (by simp only [List.getElem?_toArray, List.getElem?_cons_succ, List.getElem?_cons_zero]; exact rfl) (by kernel_rfl) (by kernel_rfl) (by kernel_rfl) (by intro _ _ _ h; exact h) (Or.inl ⟨by rfl, ?y44⟩) ?_
          case y44 => (intro w _; go_simp; try (with_reducible rfl))
          try simp only [Act.put, List.setIfInBounds_toArray, List.set_cons_zero, List.set_cons_succ]
          refine wpLate_take (i := 9) (v := ?v45) (by simp only [List.getElem?_toArray, List.getElem?_cons_succ, List.getElem?_cons_zero]; exact rfl) (by kernel_rfl) (by kernel_rfl) (by kernel_rfl) (by intro _ _ _ h; exact h) (Or.inl ⟨by rfl, ?y45⟩) ?_
          case y45 => (intro w _; go_simp; try (with_reducible rfl))
          try simp only [Act.put, List.setIfInBounds_toArray, List.set_cons_zero, List.set_cons_succ]
          refine wpLate_load (i := 11) (v := ?v46) (by simp only [List.getElem?_toArray, List.getElem?_cons_succ, List.getElem?_cons_zero]; exact rfl) (by kernel_rfl) (by kernel_rfl) (by kernel_rfl) (by kernel_rfl) (by intro _ _ _ h; exact h) (Or.inl ⟨by rfl, ?y46⟩) hHeld ?_
          case y46 => (intro w hSw; (try dsimp only at hSw); go_simp; try (with_reducible rfl))
          try simp only [Act.put, List.setIfInBounds_toArray, List.set_cons_zero, List.set_cons_succ]
          refine wpLate_one (i := 6) (by kernel_rfl) (by simp only [List.getElem?_toArray, List.getElem?_cons_succ, List.getElem?_cons_zero]; exact rfl) (by kernel_rfl) (fun K hK => ?_)
          go_simp
          refine (HP1.out wd (hq.trans (hbd.mono hq.size))).mono ?_
          rintro e wy ⟨x1, rfl, hx1, hb5⟩
          have hbd := hbd.trans (hb5.mono hbd.size)
          clear hb5 g0 g1
          obtain ⟨wd, rfl⟩ : ∃ x, x = wy := ⟨_, rfl⟩
          have g0 := (hbd.cell (cell_lt c0)).trans c0
          have g1 := (hbd.cell (cell_lt c1)).trans c1
          try dsimp only
          refine hK.out _ _ ?h48 (fun hHeld => ?_)
          case h48 => first | exact ⟨‹_›, ‹_›⟩ | assumption | (simp [*, go_sem])
          clear hK K
          try simp only [Act.put, List.setIfInBounds_toArray, List.set_cons_zero, List.set_cons_succ]
          refine wpLate_one (i := 10) (by kernel_rfl) (by simp only [List.getElem?_toArray, List.getElem?_cons_succ, List.getElem?_cons_zero]; exact rfl) (by kernel_rfl) (fun K hK => ?_)
          go_simp
          refine (HP2.out wd x1 hx1).mono ?_
          rintro e wy ⟨x2, rfl, hx2, hb5⟩
          have hbd := hbd.trans (hb5.mono hbd.size)
          clear hb5 g0 g1
          obtain ⟨wd, rfl⟩ : ∃ x, x = wy := ⟨_, rfl⟩
          have g0 := (hbd.cell (cell_lt c0)).trans c0
          have g1 := (hbd.cell (cell_lt c1)).trans c1
          try dsimp only
          refine hK.out _ _ ?h50 (fun hHeld => ?_)
          case h50 => first | exact ⟨‹_›, ‹_›⟩ | assumption | (simp [*, go_sem])
          clear hK K
          try simp only [Act.put, List.setIfInBounds_toArray, List.set_cons_zero, List.set_cons_succ]
          refine wpLate_one (i := 12) (by kernel_rfl) (by simp only [List.getElem?_toArray, List.getElem?_cons_succ, List.getElem?_cons_zero]; exact rfl) (by kernel_rfl) (fun K hK => ?_)
          go_simp
          refine (HIH.out wd x2 (hq.trans (hbd.mono hq.size)) hx2 ((hbl.below hbd (Nat.le_refl _)).weak fun x hx => ⟨hx.1, Nat.lt_of_lt_of_le hx.2 hbd.size⟩)).mono ?_
          rintro e wy ⟨x3, rfl, hx3, hb5⟩
          have hwd := hbd.size
          have hbd := hbd.trans (hb5.mono hbd.size)
          clear g0 g1
          have g0 := (hbd.cell (cell_lt c0)).trans c0
          have g1 := (hbd.cell (cell_lt c1)).trans c1
          obtain ⟨xa, xc, rfl⟩ := hx3.slice
          rw [List.length_map] at hx3
          try dsimp only
          refine hK.out _ _ ?h52 (fun hHeld => ?_)
          case h52 => first | exact ⟨‹_›, ‹_›⟩ | assumption | (simp [*, go_sem])
          clear hK K
          try simp only [Act.put, List.setIfInBounds_toArray, List.set_cons_zero, List.set_cons_succ]
          refine wpLate_late (i := 13) (by kernel_rfl) (by simp only [List.getElem?_toArray, List.getElem?_cons_succ, List.getElem?_cons_zero]; exact rfl) (by kernel_rfl) (fun K hK => ?_)
          have hbxd := hbox.below hbd (Nat.le_refl _)
          obtain ⟨k0, k1, f0, f1, -, -⟩ := own2_cell hbxd
          go_simp
          try dsimp only
          refine hK.out _ _ ?_
          clear hK K
          try simp only [Act.put, List.setIfInBounds_toArray, List.set_cons_zero, List.set_cons_succ]
          refine wpLate_done (by kernel_rfl) ?_ _
          skip
          have hbx9 := own2_set hbxd (.int .i64 ((lvE u v es t i k).foldl stepW (m', b')).1) (.slice xa ((lvE u v es t i k).foldl stepW (m', b')).2.length xc)
          have hk9 := (KeptBut.set wy w.heap.size 0 (.int .i64 ((lvE u v es t i k).foldl stepW (m', b')).1)).trans (KeptBut.set (wy.setCell ⟨w.heap.size, 0, none⟩ (.int .i64 ((lvE u v es t i k).foldl stepW (m', b')).1)) w.heap.size 1 (.slice xa ((lvE u v es t i k).foldl stepW (m', b')).2.length xc))
          have hqy := hq.trans (hbd.mono hq.size)
          have hq9 := hk9.below hqy hqy.size (fun x hx => by have e9 := Option.some.inj hx; omega)
          have hr9 := (hres.below hbd (Nat.le_refl _)).kept hk9 (fun x hx e => by have e1 : w.heap.size + 1 = x := Option.some.inj hx; have e2 : w.heap.size = x := Option.some.inj e; omega)
          have hwi := hq.size
          have hwz : w.heap.size + 2 ≤ wd.heap.size := by have := hz4; omega
          have hb9 := (hx3.keep (fun x hx => hk9.2.2.2.2 x hx.2 (fun e => by have e2 : x = w.heap.size := Option.some.inj e; rcases hx.1 with h | h; rcases h.1 with h | h; have := hS3 x h; omega; omega; omega))).weak (S' := fun x => (S3 x ∨ w.heap.size + 2 ≤ x) ∧ x < ((wy.setCell ⟨w.heap.size, 0, none⟩ (.int .i64 ((lvE u v es t i k).foldl stepW (m', b')).1)).setCell ⟨w.heap.size, 1, none⟩ (.slice xa ((lvE u v es t i k).foldl stepW (m', b')).2.length xc)).heap.size) (fun x hx => ⟨by rcases hx.1 with h | h; exact h.1; exact .inr (by omega), by simpa using hx.2⟩)
          have HQ2 := Lib.hid (show inE u v es t (max 1 lv) (m, b) i (k + 1) = (((lvE u v es t i k).foldl stepW (m', b')).1, ((lvE u v es t i k).foldl stepW (m', b')).2) by rw [inE_succ, HQ.out])
          have HB2 := Lib.hid (bestL_fold (n := t.length) (lvE u v es t i k) (m', b') (HLV.out i k).1 HB.out)
          generalize ((lvE u v es t i k).foldl stepW (m', b')).2 = b9 at *
          generalize ((lvE u v es t i k).foldl stepW (m', b')).1 = m9 at *
          go_wp2
          go_roundw
          case rel => exact ⟨k + 1, m9, b9, xa, xc, by omega, by go_num, HQ2, HB2, hb9, hbx9, hr9, hq9⟩
          case measure => (simp [RowKit.intOf] <;> omega)
        · have q5 : decide ((k : Int) < (lv : Int)) = true := decide_eq_true q4
          have q6 : decide (k < lv) = true := decide_eq_true q3
          go_wp2
          refine wp_region_late (S := (fun w' => w'.cell? ⟨w.heap.size, 0, none⟩ = some (.int .i64 m') ∧ w'.cell? ⟨w.heap.size, 1, none⟩ = some (.slice ba' b'.length bc'))) (late := [13]) (by kernel_rfl) ?_ (fun hHeld => ?_)
          · first | exact ⟨‹_›, ‹_›⟩ | assumption | (simp [*, go_sem])
          have hbd : Below wi.heap.size wi wi.drew := ((Drawn.refl _).drew).below _
          generalize wi.drew = wd at hbd hHeld ⊢
          have hH2 := hHeld
          obtain ⟨g0, g1⟩ := hH2
          refine wpLate_take (i := 0) (v := ?v55) (by simp only [List.getElem?_toArray, List.getElem?_cons_zero]; exact rfl) (by kernel_rfl) (by kernel_rfl) (by kernel_rfl) (by intro _ _ _ h; exact h) (Or.inl ⟨by rfl, ?y55⟩) ?_
          case y55 => (intro w _; go_simp; try (with_reducible rfl))
          try simp only [Act.put, List.setIfInBounds_toArray, List.set_cons_zero, List.set_cons_succ]
          refine wpLate_take (i := 1) (v := ?v56) (by simp only [List.getElem?_toArray, List.getElem?_cons_succ, List.getElem?_cons_zero]; exact rfl) (by kernel_rfl) (by kernel_rfl) (by kernel_rfl) (by intro _ _ _ h; exact h) (Or.inl ⟨by rfl, ?y56⟩) ?_
          case y56 => (intro w _; go_simp; try (with_reducible rfl))
          try simp only [Act.put, List.setIfInBounds_toArray, List.set_cons_zero, List.set_cons_succ]
          refine wpLate_take (i := 2) (v := ?v57) (by simp only [List.getElem?_toArray, List.getElem?_cons_succ, List.getElem?_cons_zero]; exact rfl) (by kernel_rfl) (by kernel_rfl) (by kernel_rfl) (by intro _ _ _ h; exact h) (Or.inl ⟨by rfl, ?y57⟩) ?_
          case y57 => (intro w _; go_simp; try (with_reducible rfl))
          try simp only [Act.put, List.setIfInBounds_toArray, List.set_cons_zero, List.set_cons_succ]
          refine wpLate_take (i := 3) (v := ?v58) (by simp only [List.getElem?_toArray, List.getElem?_cons_succ, List.getElem?_cons_zero]; exact rfl) (by kernel_rfl) (by kernel_rfl) (by kernel_rfl) (by intro _ _ _ h; exact h) (Or.inl ⟨by rfl, ?y58⟩) ?_
          case y58 => (intro w _; go_simp; try (with_reducible rfl))
          try simp only [Act.put, List.setIfInBounds_toArray, List.set_cons_zero, List.set_cons_succ]
          refine wpLate_take (i := 4) (v := ?v59) (by simp only [List.getElem?_toArray, List.getElem?_cons_succ, List.getElem?_cons_zero]; exact rfl) (by kernel_rfl) (by kernel_rfl) (by kernel_rfl) (by intro _ _ _ h; exact h) (Or.inl ⟨by rfl, ?y59⟩) ?_
          case y59 => (intro w _; go_simp; try (with_reducible rfl))
          try simp only [Act.put, List.setIfInBounds_toArray, List.set_cons_zero, List.set_cons_succ]
          refine wpLate_take (i := 5) (v := ?v60) (by simp only [List.getElem?_toArray, List.getElem?_cons_succ, List.getElem?_cons_zero]; exact rfl) (by kernel_rfl) (by kernel_rfl) (by kernel_rfl) (by intro _ _ _ h; exact h) (Or.inl ⟨by rfl, ?y60⟩) ?_
          case y60 => (intro w _; go_simp; try (with_reducible rfl))
          try simp only [Act.put, List.setIfInBounds_toArray, List.set_cons_zero, List.set_cons_succ]
          refine wpLate_take (i := 7) (v := ?v61) (by simp only [List.getElem?_toArray, List.getElem?_cons_succ, List.getElem?_cons_zero]; exact rfl) (by kernel_rfl) (by kernel_rfl) (by kernel_rfl) (by intro _ _ _ h; exact h) (Or.inl ⟨by rfl, ?y61⟩) ?_
          case y61 => (intro w _; go_simp; try (with_reducible rfl))
          try simp only [Act.put, List.setIfInBounds_toArray, List.set_cons_zero, List.set_cons_succ]
          refine wpLate_take (i := 8) (v := ?v62) (by simp only [List.getElem?_toArray, List.getElem?_cons_succ, List.getElem?_cons_zero]; exact rfl) (by kernel_rfl) (by kernel_rfl) (by kernel_rfl) (by intro _ _ _ h; exact h) (Or.inl ⟨by rfl, ?y62⟩) ?_
          case y62 => (intro w _; go_simp; try (with_reducible rfl))
          try simp only [Act.put, List.setIfInBounds_toArray, List.set_cons_zero, List.set_cons_succ]
          refine wpLate_take (i := 9) (v := ?v63) (by simp only [List.getElem?_toArray, List.getElem?_cons_succ, List.getElem?_cons_zero]; exact rfl) (by kernel_rfl) (by kernel_rfl) (by kernel_rfl) (by intro _ _ _ h; exact h) (Or.inl ⟨by rfl, ?y63⟩) ?_
          case y63 => (intro w _; go_simp; try (with_reducible rfl))
          try simp only [Act.put, List.setIfInBounds_toArray, List.set_cons_zero, List.set_cons_succ]
          refine wpLate_load (i := 11) (v := ?v64) (by simp only [List.getElem?_toArray, List.getElem?_cons_succ, List.getElem?_cons_zero]; exact rfl) (by kernel_rfl) (by kernel_rfl) (by kernel_rfl) (by kernel_rfl) (by intro _ _ _ h; exact h) (Or.inl ⟨by rfl, ?y64⟩) hHeld ?_
          case y64 => (intro w hSw; (try dsimp only at hSw); go_simp; try (with_reducible rfl))
          try simp only [Act.put, List.setIfInBounds_toArray, List.set_cons_zero, List.set_cons_succ]
          refine wpLate_one (i := 6) (by kernel_rfl) (by simp only [List.getElem?_toArray, List.getElem?_cons_succ, List.getElem?_cons_zero]; exact rfl) (by kernel_rfl) (fun K hK => ?_)
          go_simp
          refine (HP1.out wd (hq.trans (hbd.mono hq.size))).mono ?_
          rintro e wy ⟨x1, rfl, hx1, hb5⟩
          have hbd := hbd.trans (hb5.mono hbd.size)
          clear hb5 g0 g1
          obtain ⟨wd, rfl⟩ : ∃ x, x = wy := ⟨_, rfl⟩
          have g0 := (hbd.cell (cell_lt c0)).trans c0
          have g1 := (hbd.cell (cell_lt c1)).trans c1
          try dsimp only
          refine hK.out _ _ ?h66 (fun hHeld => ?_)
          case h66 => first | exact ⟨‹_›, ‹_›⟩ | assumption | (simp [*, go_sem])
          clear hK K
          try simp only [Act.put, List.setIfInBounds_toArray, List.set_cons_zero, List.set_cons_succ]
          refine wpLate_one (i := 10) (by kernel_rfl) (by simp only [List.getElem?_toArray, List.getElem?_cons_succ, List.getElem?_cons_zero]; exact rfl) (by kernel_rfl) (fun K hK => ?_)
          go_simp
          refine (HP2.out wd x1 hx1).mono ?_
          rintro e wy ⟨x2, rfl, hx2, hb5⟩
          have hbd := hbd.trans (hb5.mono hbd.size)
          clear hb5 g0 g1
          obtain ⟨wd, rfl⟩ : ∃ x, x = wy := ⟨_, rfl⟩
          have g0 := (hbd.cell (cell_lt c0)).trans c0
          have g1 := (hbd.cell (cell_lt c1)).trans c1
          try dsimp only
          refine hK.out _ _ ?h68 (fun hHeld => ?_)
          case h68 => first | exact ⟨‹_›, ‹_›⟩ | assumption | (simp [*, go_sem])
          clear hK K
          try simp only [Act.put, List.setIfInBounds_toArray, List.set_cons_zero, List.set_cons_succ]
          refine wpLate_one (i := 12) (by kernel_rfl) (by simp only [List.getElem?_toArray, List.getElem?_cons_succ, List.getElem?_cons_zero]; exact rfl) (by kernel_rfl) (fun K hK => ?_)
          go_simp
          refine (HIH.out wd x2 (hq.trans (hbd.mono hq.size)) hx2 ((hbl.below hbd (Nat.le_refl _)).weak fun x hx => ⟨hx.1, Nat.lt_of_lt_of_le hx.2 hbd.size⟩)).mono ?_
          rintro e wy ⟨x3, rfl, hx3, hb5⟩
          have hwd := hbd.size
          have hbd := hbd.trans (hb5.mono hbd.size)
          clear g0 g1
          have g0 := (hbd.cell (cell_lt c0)).trans c0
          have g1 := (hbd.cell (cell_lt c1)).trans c1
          obtain ⟨xa, xc, rfl⟩ := hx3.slice
          rw [List.length_map] at hx3
          try dsimp only
          refine hK.out _ _ ?h70 (fun hHeld => ?_)
          case h70 => first | exact ⟨‹_›, ‹_›⟩ | assumption | (simp [*, go_sem])
          clear hK K
          try simp only [Act.put, List.setIfInBounds_toArray, List.set_cons_zero, List.set_cons_succ]
          refine wpLate_late (i := 13) (by kernel_rfl) (by simp only [List.getElem?_toArray, List.getElem?_cons_succ, List.getElem?_cons_zero]; exact rfl) (by kernel_rfl) (fun K hK => ?_)
          have hbxd := hbox.below hbd (Nat.le_refl _)
          obtain ⟨k0, k1, f0, f1, -, -⟩ := own2_cell hbxd
          go_simp
          try dsimp only
          refine hK.out _ _ ?_
          clear hK K
          try simp only [Act.put, List.setIfInBounds_toArray, List.set_cons_zero, List.set_cons_succ]
          refine wpLate_done (by kernel_rfl) ?_ _
          skip
          have hbx9 := own2_set hbxd (.int .i64 ((lvE u v es t i k).foldl stepW (m', b')).1) (.slice xa ((lvE u v es t i k).foldl stepW (m', b')).2.length xc)
          have hk9 := (KeptBut.set wy w.heap.size 0 (.int .i64 ((lvE u v es t i k).foldl stepW (m', b')).1)).trans (KeptBut.set (wy.setCell ⟨w.heap.size, 0, none⟩ (.int .i64 ((lvE u v es t i k).foldl stepW (m', b')).1)) w.heap.size 1 (.slice xa ((lvE u v es t i k).foldl stepW (m', b')).2.length xc))
          have hqy := hq.trans (hbd.mono hq.size)
          have hq9 := hk9.below hqy hqy.size (fun x hx => by have e9 := Option.some.inj hx; omega)
          have hr9 := (hres.below hbd (Nat.le_refl _)).kept hk9 (fun x hx e => by have e1 : w.heap.size + 1 = x := Option.some.inj hx; have e2 : w.heap.size = x := Option.some.inj e; omega)
          have hwi := hq.size
          have hwz : w.heap.size + 2 ≤ wd.heap.size := by have := hz4; omega
          have hb9 := (hx3.keep (fun x hx => hk9.2.2.2.2 x hx.2 (fun e => by have e2 : x = w.heap.size := Option.some.inj e; rcases hx.1 with h | h; rcases h.1 with h | h; have := hS3 x h; omega; omega; omega))).weak (S' := fun x => (S3 x ∨ w.heap.size + 2 ≤ x) ∧ x < ((wy.setCell ⟨w.heap.size, 0, none⟩ (.int .i64 ((lvE u v es t i k).foldl stepW (m', b')).1)).setCell ⟨w.heap.size, 1, none⟩ (.slice xa ((lvE u v es t i k).foldl stepW (m', b')).2.length xc)).heap.size) (fun x hx => ⟨by rcases hx.1 with h | h; exact h.1; exact .inr (by omega), by simpa using hx.2⟩)
          have HQ2 := Lib.hid (show inE u v es t (max 1 lv) (m, b) i (k + 1) = (((lvE u v es t i k).foldl stepW (m', b')).1, ((lvE u v es t i k).foldl stepW (m', b')).2) by rw [inE_succ, HQ.out])
          have HB2 := Lib.hid (bestL_fold (n := t.length) (lvE u v es t i k) (m', b') (HLV.out i k).1 HB.out)
          generalize ((lvE u v es t i k).foldl stepW (m', b')).2 = b9 at *
          generalize ((lvE u v es t i k).foldl stepW (m', b')).1 = m9 at *
          go_wp2
          go_roundw
          case rel => exact ⟨k + 1, m9, b9, xa, xc, by omega, by go_num, HQ2, HB2, hb9, hbx9, hr9, hq9⟩
          case measure => (simp [RowKit.intOf] <;> omega)
theorem search_any {n : Nat} (hn : 0 < n) (h8 : n ≤ 8) : ∀ es : List (Nat × Nat), SearchP n es
  | [] => search_nil hn h8
  | _ :: es => search_cons hn h8 (search_any hn h8 es)
end Go.Proofs.YtdbanndcdbikmaaGreatDoor
