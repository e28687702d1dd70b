/- The law GossipOwn, walked. -/
import Derived.Test.YtdpigpjcldcoaaaGossipSame
set_option linter.unusedVariables false
set_option linter.unusedSimpArgs false
namespace Go.Proofs.Ytdpigpjcldcoaaa
open Go.RowKit

/-- One writes, and tells another. -/
abbrev WT (i j v : Int) : Mv := ⟨fun q => if q = 0 then 1 else 2, fun _ => i, fun q => if q = 0 then 0 else j, fun q => if q = 0 then v else 0⟩
theorem wt_cells (i j v : Int) : ∀ q, q < 2 * 4 → (#[Value.int .i64 1, .int .i64 i, .int .i64 0, .int .i64 v, .int .i64 2, .int .i64 i, .int .i64 j, .int .i64 0])[q]? = some (mvF (WT i j v) q) := by
  intro q hq
  rcases (by omega : q = 0 ∨ q = 1 ∨ q = 2 ∨ q = 3 ∨ q = 4 ∨ q = 5 ∨ q = 6 ∨ q = 7) with rfl | rfl | rfl | rfl | rfl | rfl | rfl | rfl <;> rfl
set_option maxRecDepth 100000 in
set_option maxHeartbeats 3200000 in
theorem gossipOwn_bad (n i j v : Int) (m cap : Nat) (A : Option Addr) (M : Mv) (w : World) (hmc : m ≤ cap) (hcap : cap * 32 ≤ 140737488351232) (hr : Rd w w.heap.size A (m * 4) (mvF M)) (hb : playedB n (m + 2 : Nat) = false) :
    Calls Try.prog 5 #[.int .i64 n, .slice A m cap, .int .i64 i, .int .i64 j, .int .i64 v] w fun e w' => e = .returned (.bool true) ∧ Below w.heap.size w w' := by
  have HR := Lib.hid hr; clear hr
  have HPB := Lib.hid hb; clear hb
  go_enter Try.func5, Try.ntmps5
  go_wp2_with (first
    | (at_builtin; refine wpList_apMvs rfl (.tmp 16) (.tmp 17) rfl w.heap.size rfl (Own.empty _ _ _ _ (mvF Z0) _ (by simp) (by simp)) rfl (HR.out.alloc (Nat.le_refl _) _) m (Nat.zero_add m) (by unfold maxLen; omega) (by omega) (by simp) ?_; intro A3 c3 w3 ho3 hg3 ha3
       have HL3 : Hid (Lay w w3 [mvs A3 m c3 (Z0.app 0 M)]) := (((Lay.nil w).new #[] 41 4 0 (mvF Z0) _ rfl rfl (by unfold maxLen; omega) (fun j hj => absurd hj (by omega))).app 0 rfl ho3 hg3 ha3)
       clear ho3 hg3 ha3)
    | (at_builtin; refine wpList_apMvs (N := WT i j v) (m := 2) rfl (.tmp 18) (.tmp 25) rfl w.heap.size rfl ((HL3.out.own 0 _ rfl).alloc _) rfl (cell_new _ _ _ _ _ rfl (wt_cells i j v)) (m + 2) rfl (by unfold maxLen; omega) (by omega) (by have := HL3.out.size; simp; omega) ?_; intro A5 c5 w5 ho5 hg5 ha5
       have HL5 := Lib.hid ((HL3.out.alloc _).app 0 rfl ho5 hg5 ha5)
       clear ho5 hg5 ha5 HL3)
    | fail)
  refine (go_bad' n (m + 2) c5 A5 w5 (by unfold maxLen; omega) HPB.out).mono ?_
  rintro e w6 ⟨rfl, hb⟩
  have HBW := Lib.hid (HL5.out.bel.trans (hb.mono HL5.out.size))
  clear hb HL5
  go_wp2_with (go_at_call 11; refine (bool_is (played_any n (m + 2 : Nat) _) HPB.out).mono ?_; rintro e w7 ⟨rfl, rfl⟩)
  go_ret
  exact ⟨rfl, HBW.out.alloc HBW.out.size _⟩
set_option maxRecDepth 100000 in
set_option maxHeartbeats 6400000 in
theorem gossipOwn_good (n m cap : Nat) (i j v : Int) (A : Option Addr) (M : Mv) (w : World) (hmc : m ≤ cap) (hcap : cap * 32 ≤ 140737488351232) (hr : Rd w w.heap.size A (m * 4) (mvF M)) (h1 : 1 ≤ n) (h6 : n ≤ 6) (hm : m + 2 ≤ 60) :
    Calls Try.prog 5 #[.int .i64 n, .slice A m cap, .int .i64 i, .int .i64 j, .int .i64 v] w fun e w' => e = .returned (.bool true) ∧ Below w.heap.size w w' := by
  have HR := Lib.hid hr; clear hr
  go_enter Try.func5, Try.ntmps5
  go_wp2_with (first
    | (at_builtin; refine wpList_apMvs rfl (.tmp 16) (.tmp 17) rfl w.heap.size rfl (Own.empty _ _ _ _ (mvF Z0) _ (by simp) (by simp)) rfl (HR.out.alloc (Nat.le_refl _) _) m (Nat.zero_add m) (by unfold maxLen; omega) (by omega) (by simp) ?_; intro A3 c3 w3 ho3 hg3 ha3
       have HL3 : Hid (Lay w w3 [mvs A3 m c3 (Z0.app 0 M)]) := (((Lay.nil w).new #[] 41 4 0 (mvF Z0) _ rfl rfl (by unfold maxLen; omega) (fun j hj => absurd hj (by omega))).app 0 rfl ho3 hg3 ha3)
       clear ho3 hg3 ha3)
    | (at_builtin; refine wpList_apMvs (N := WT i j v) (m := 2) rfl (.tmp 18) (.tmp 25) rfl w.heap.size rfl ((HL3.out.own 0 _ rfl).alloc _) rfl (cell_new _ _ _ _ _ rfl (wt_cells i j v)) (m + 2) rfl (by unfold maxLen; omega) (by omega) (by have := HL3.out.size; simp; omega) ?_; intro A5 c5 w5 ho5 hg5 ha5
       have HL5 := Lib.hid ((HL3.out.alloc _).app 0 rfl ho5 hg5 ha5)
       clear ho5 hg5 ha5 HL3)
    | fail)
  refine (go_play n (m + 2) c5 w5.heap.size A5 ((Z0.app 0 M).app m (WT i j v)) w5 h1 h6 hm (Nat.le_refl _) (HL5.out.rd 0 rfl)).mono ?_
  rintro e w6 ⟨vv, rfl, p, KS, rfl, hS, hR, hb⟩
  have HBW := Lib.hid (HL5.out.bel.trans (hb.mono HL5.out.size))
  have HLEN : Hid (∀ i, i < n → (KS i).length ≤ 1000) := Lib.hid fun i hi => Nat.le_trans (srt_short hS hi) (by omega)
  have HPB : Hid (playedB (n : Nat) (m + 2 : Nat) = true) := Lib.hid (playedB_iff.2 ⟨by omega, by omega, by omega⟩)
  have HLAW : Hid (∀ I J : Nat, I < n → J < n → i = (I : Nat) → j = (J : Nat) → 0 ≤ v → v ≤ 100 → (I ≠ J → (KS I).length = 1 ∧ (knAt (KS I) 0).val = v) ∧ (KS I).length ≠ 0 ∧ ∃ t, t < (KS J).length ∧ (knAt (KS J) t).val = v ∧ Eqv n (knAt (KS J) t).vec (knAt (KS I) 0).vec) := Lib.hid (by
    rintro I J hI hJ rfl rfl h0 h9
    have a0 := app_new (Z0.app 0 M) m (WT (I : Nat) (J : Nat) v) 0
    have a1 := app_new (Z0.app 0 M) m (WT (I : Nat) (J : Nat) v) 1
    obtain ⟨x, e1, e2, e3, e4, y, e5, e6, e7⟩ := own_law (n := n) (m := m) (M := (Z0.app 0 M).app m (WT (I : Nat) (J : Nat) v)) hI hJ h0 h9 ⟨a0.1, a0.2.1, a0.2.2.2⟩ ⟨a1.1, a1.2.1, a1.2.2.1⟩
    have hlen := (hS I hI).len
    have hpos : (KS I).length ≠ 0 := by rw [hlen]; exact fun h => e3 (List.eq_nil_of_length_eq_zero h)
    have hx0 : knAt (KS I) 0 = x := e4 _ ((hS I hI).mem.1 (knAt_in (by omega)))
    obtain ⟨t, ht, hty⟩ := in_knAt ((hS J hJ).mem.2 e5)
    refine ⟨fun hne => ⟨by rw [hlen, e2 hne]; rfl, by rw [hx0, e1]⟩, hpos, t, ht, by rw [hty, e6], by rw [hty, hx0]; exact e7⟩)
  have HG := Lib.hid hR
  clear hS hR hb HR HL5
  generalize goC n ((Z0.app 0 M).app m (WT i j v)) = cd at HG
  obtain ⟨mm, hmm⟩ : ∃ mm, mm = m + 2 := ⟨_, rfl⟩
  have hm2 : mm ≤ 1000 := by omega
  rw [← hmm] at HG HPB ⊢
  clear hmm
  go_wp2_with (go_at_call 11; refine (bool_is (played_any n mm _) HPB.out).mono ?_; rintro e w7 ⟨rfl, rfl⟩)
  have HL1 := Lib.hid ((Lay.nil w6).newB (p.l n mm) 27 2 rfl _ rfl)
  refine at_lay (F := fun W' => Calls _ _ _ W' _) HL1.out ?_
  intro W hW
  have HW := Lib.hid hW
  clear hW HL1
  generalize w6.heap.size = bb at HW ⊢
  refine (told_any n mm w6.heap.size cd KS p W h6 hm2 HLEN.out (HG.out.to HW.out.bel)).mono ?_
  rintro e w7 ⟨rfl, hb7⟩
  have HW7 := Lib.hid (HW.out.keep hb7)
  clear hb7 HW
  obtain ⟨b, hb⟩ : ∃ b, (decide (0 ≤ i) && decide (i < (n : Int)) && (decide (0 ≤ j) && decide (j < (n : Int)))) = b := ⟨_, rfl⟩
  have HB := Lib.hid hb
  cases b
  · clear hb
    go_wp2_with (go_at_call 14; refine (inside2 false n i j w7 3 w7.heap.size rfl HB.out).mono ?_; rintro e w8 ⟨rfl, rfl⟩)
    go_ret
    exact ⟨rfl, HBW.out.trans ((HW7.out.alloc _).bel.mono HBW.out.size)⟩
  · have hin : (0 ≤ i ∧ i < n) ∧ 0 ≤ j ∧ j < n := by simpa using hb
    obtain ⟨I, rfl⟩ := Int.eq_ofNat_of_zero_le hin.1.1
    obtain ⟨J, rfl⟩ := Int.eq_ofNat_of_zero_le hin.2.1
    have hI : I < n := by have := hin.1.2; omega
    have hJ : J < n := by have := hin.2.2; omega
    clear hb hin
    by_cases hv0 : v < 0
    · go_wp2_with (go_at_call 14; refine (inside2 true n I J w7 3 w7.heap.size rfl HB.out).mono ?_; rintro e w8 ⟨rfl, rfl⟩)
      go_ret
      exact ⟨rfl, HBW.out.trans ((HW7.out.alloc _).bel.mono HBW.out.size)⟩
    · by_cases hv9 : 100 < v
      · go_wp2_with (go_at_call 14; refine (inside2 true n I J w7 3 w7.heap.size rfl HB.out).mono ?_; rintro e w8 ⟨rfl, rfl⟩)
        go_ret
        exact ⟨rfl, HBW.out.trans ((HW7.out.alloc _).bel.mono HBW.out.size)⟩
      · have HX := Lib.hid (HLAW.out I J hI hJ rfl rfl (by omega) (by omega))
        clear HLAW
        have hpos : 0 < (KS I).length := by have := HX.out.2.1; omega
        have hlI := HLEN.out I hI
        have hlJ := HLEN.out J hJ
        have HW8 := Lib.hid (HW7.out.alloc (.cells #[.int .i64 (I : Nat), .int .i64 (J : Nat)] 3))
        have hbne : ((((KS I).length : Nat) : Int) == 0) = false := by
          have := HX.out.2.1
          simpa using this
        by_cases hIJ : I = J
        · have hne : (((I : Nat) : Int) != ((J : Nat) : Int)) = false := by rw [hIJ]; simp
          have HIJ := Lib.hid hIJ
          clear hIJ
          go_wp2_with (go_at_call 14
                       refine (inside2 true n I J w7 3 w7.heap.size rfl HB.out).mono ?_
                       rintro e w8 ⟨rfl, hw8⟩
                       rw [hw8] at HW8
                       clear hw8
                       have gI := (HG.out.to HW8.out.bel).K I hI
                       have gJ := (HG.out.to HW8.out.bel).K J hJ
                       obtain ⟨ad, gv, cv, hA, hbA, a0, -, -⟩ := (HG.out.to HW8.out.bel).L I hI 0 (by omega)
                       have a0' : w8.cell? ad = some (.int .i64 (knAt (KS I) 0).val) := by simpa [Addr.add] using a0
                       rw [hA] at gI
                       have c1 := HW8.out.cellB 0 rfl 1 (by omega)
                       simp only [ofL_1] at c1)
          have HW9 := HW8
          clear HW8 HW7
          go_loopw [103] (fun x wr => ∃ t : Nat, t ≤ (KS J).length ∧ x = .int .i64 (t : Nat) ∧ Hid (Lay w6 wr [blkG bb (p.l n mm)]) ∧ Hid (∀ s, s < t → ¬ ((knAt (KS J) s).val = v ∧ Eqv n (knAt (KS J) s).vec (knAt (KS I) 0).vec))) (fun x _ => (KS J).length - (intOf x).toNat)
          case atStart => exact ⟨0, by omega, rfl, HW9, Lib.hid fun s hs => absurd hs (by omega)⟩
          case round =>
            clear HW9
            obtain ⟨t, ht, rfl, HQ, HNO⟩ := hrel
            by_cases htl : t < (KS J).length
            · obtain ⟨aj, gj, cj, eJ, hbj, j0, j1, j2⟩ := HG.out.L J hJ t htl
              have HJ0 := Lib.hid j0
              have HJ2 := Lib.hid j2
              have w0 := (HQ.out.bel.cell (p := aj.add (t * 2)) (by rw [addr_block]; exact hbj)).trans j0
              have w1 := (HQ.out.bel.cell (p := ⟨(aj.add (t * 2)).block, (aj.add (t * 2)).off + 1, none⟩) (show (aj.add (t * 2)).block < w6.heap.size by rw [addr_block]; exact hbj)).trans j1
              clear j0 j1 j2
              first | rw [eJ] | (obtain rfl : ad = aj := by (have := eJ; rw [← HIJ.out, hA] at this; injection this))
              have HL5 := Lib.hid (HQ.out.newB [.int .i64 (knAt (KS J) t).val, .slice (some ⟨gj, 0, none⟩) n cj] 38 2 rfl _ rfl)
              go_wp2
              refine at_lay (F := fun W' => Code.wp _ _ _ _ W') HL5.out ?_
              intro W9 hW
              have HW := Lib.hid hW
              clear hW HL5 w0 w1
              generalize wr.heap.size = bk at HW ⊢
              have s0 := HW.out.cellB 0 rfl 0 (by omega)
              have s1 := HW.out.cellB 0 rfl 1 (by omega)
              have c1 := HW.out.cellB 1 rfl 1 (by omega)
              simp only [ofL_0, ofL_1] at s0 s1 c1
              have gI := (HG.out.to HW.out.bel).K I hI
              obtain ⟨ai, gi, ci, eI, hbi, i0, i1, i2⟩ := (HG.out.to HW.out.bel).L I hI 0 (by omega)
              have i1' : W9.cell? ⟨ai.block, ai.off + 1, none⟩ = some (.slice (some ⟨gi, 0, none⟩) n ci) := by simpa [Addr.add] using i1
              rw [eI] at gI
              have HRI := Lib.hid i2
              have HRJ := Lib.hid (HJ2.out.below HW.out.bel)
              have HNX := HNO.out t
              clear i0 i2
              obtain ⟨u, hu⟩ : ∃ u, u = (knAt (KS J) t).val := ⟨_, rfl⟩
              rw [← hu] at s0
              have HU := Lib.hid hu
              clear hu
              by_cases hv : u = v
              · have hvb : (u == v) = true := by simpa using hv
                by_cases hE : Eqv n (knAt (KS J) t).vec (knAt (KS I) 0).vec
                · clear hv
                  refine wp_text 15 (by kernel_rfl) (by kernel_rfl) (by kernel_rfl) (by repeat' (first | (with_reducible apply tame_then) | (with_reducible apply tame_block) | (with_reducible apply tame_scope) | exact tame_gives | exact tame_body (fun _ _ h => ⟨_, h.1⟩))) ?_
                  simp only [List.take_succ_cons, List.take_zero, List.drop_succ_cons, List.drop_zero]
                  go_wp2
                  refine headed ?_
                  go_wp2_with fail
                  refine (ints_any n cj ci w6.heap.size _ _ (knAt (KS J) t).vec (knAt (KS I) 0).vec true W9.drew (by omega) ⟨fun _ => hE, fun _ => rfl⟩ (HRJ.out.drewN 1) (HRI.out.drewN 1)).mono ?_
                  rintro e w10 ⟨rfl, hs⟩
                  have HW10 := Lib.hid (HW.out.drew.sim hs)
                  clear hs
                  go_wp2
                  go_ret
                  exact ⟨rfl, HBW.out.trans (HW10.out.bel.mono HBW.out.size)⟩
                · have HN2 : Hid (∀ s, s < t + 1 → ¬ ((knAt (KS J) s).val = v ∧ Eqv n (knAt (KS J) s).vec (knAt (KS I) 0).vec)) := Lib.hid fun s hs => (Nat.lt_succ_iff_lt_or_eq.1 hs).elim (HNO.out s) (fun e => by subst e; exact fun h => hE h.2)
                  clear hv
                  refine wp_text 15 (by kernel_rfl) (by kernel_rfl) (by kernel_rfl) (by repeat' (first | (with_reducible apply tame_then) | (with_reducible apply tame_block) | (with_reducible apply tame_scope) | exact tame_gives | exact tame_body (fun _ _ h => ⟨_, h.1⟩))) ?_
                  simp only [List.take_succ_cons, List.take_zero, List.drop_succ_cons, List.drop_zero]
                  go_wp2
                  refine headed ?_
                  go_wp2_with fail
                  refine (ints_any n cj ci w6.heap.size _ _ (knAt (KS J) t).vec (knAt (KS I) 0).vec false W9.drew (by omega) ⟨fun h => absurd h (by simp), fun h => absurd h hE⟩ (HRJ.out.drewN 1) (HRI.out.drewN 1)).mono ?_
                  rintro e w10 ⟨rfl, hs⟩
                  have HW10 := Lib.hid (HW.out.drew.sim hs)
                  clear hs
                  go_wp2
                  go_roundw
                  case rel => exact ⟨t + 1, by omega, by go_num, Lib.hid HW10.out.tail, HN2⟩
                  case measure => first | (simp [intOf]; done) | (simp [intOf]; omega)
              · have hvb : (u == v) = false := by simpa using hv
                have HN2 : Hid (∀ s, s < t + 1 → ¬ ((knAt (KS J) s).val = v ∧ Eqv n (knAt (KS J) s).vec (knAt (KS I) 0).vec)) := Lib.hid fun s hs => (Nat.lt_succ_iff_lt_or_eq.1 hs).elim (HNO.out s) (fun e => by subst e; exact fun h => hv (by rw [HU.out]; exact h.1))
                clear hv
                refine wp_text 15 (by kernel_rfl) (by kernel_rfl) (by kernel_rfl) (by repeat' (first | (with_reducible apply tame_then) | (with_reducible apply tame_block) | (with_reducible apply tame_scope) | exact tame_gives | exact tame_body (fun _ _ h => ⟨_, h.1⟩))) ?_
                simp only [List.take_succ_cons, List.take_zero, List.drop_succ_cons, List.drop_zero]
                go_wp2
                refine headed ?_
                go_wp2
                go_roundw
                case rel => exact ⟨t + 1, by omega, by go_num, Lib.hid (HW.out.drew.tail), HN2⟩
                case measure => first | (simp [intOf]; done) | (simp [intOf]; omega)
            · exfalso
              obtain ⟨t', h1, h2, h3⟩ := HX.out.2.2
              exact HNO.out t' (by omega) ⟨h2, h3⟩
        · have hne : (((I : Nat) : Int) != ((J : Nat) : Int)) = true := by simp; omega
          have hx1 := (HX.out.1 hIJ).1
          have hx2 := (HX.out.1 hIJ).2
          have hl1 : ((((KS I).length : Nat) : Int) != 1) = false := by rw [hx1]; rfl
          have hl2 : ((knAt (KS I) 0).val != v) = false := by rw [hx2]; simp
          go_wp2_with (go_at_call 14
                       refine (inside2 true n I J w7 3 w7.heap.size rfl HB.out).mono ?_
                       rintro e w8 ⟨rfl, hw8⟩
                       rw [hw8] at HW8
                       clear hw8
                       have gI := (HG.out.to HW8.out.bel).K I hI
                       have gJ := (HG.out.to HW8.out.bel).K J hJ
                       obtain ⟨ad, gv, cv, hA, hbA, a0, -, -⟩ := (HG.out.to HW8.out.bel).L I hI 0 (by omega)
                       have a0' : w8.cell? ad = some (.int .i64 (knAt (KS I) 0).val) := by simpa [Addr.add] using a0
                       rw [hA] at gI
                       have c1 := HW8.out.cellB 0 rfl 1 (by omega)
                       simp only [ofL_1] at c1)
          have HW9 := HW8
          clear HW8 HW7
          go_loopw [103] (fun x wr => ∃ t : Nat, t ≤ (KS J).length ∧ x = .int .i64 (t : Nat) ∧ Hid (Lay w6 wr [blkG bb (p.l n mm)]) ∧ Hid (∀ s, s < t → ¬ ((knAt (KS J) s).val = v ∧ Eqv n (knAt (KS J) s).vec (knAt (KS I) 0).vec))) (fun x _ => (KS J).length - (intOf x).toNat)
          case atStart => exact ⟨0, by omega, rfl, HW9, Lib.hid fun s hs => absurd hs (by omega)⟩
          case round =>
            clear HW9
            obtain ⟨t, ht, rfl, HQ, HNO⟩ := hrel
            by_cases htl : t < (KS J).length
            · obtain ⟨aj, gj, cj, eJ, hbj, j0, j1, j2⟩ := HG.out.L J hJ t htl
              have HJ0 := Lib.hid j0
              have HJ2 := Lib.hid j2
              have w0 := (HQ.out.bel.cell (p := aj.add (t * 2)) (by rw [addr_block]; exact hbj)).trans j0
              have w1 := (HQ.out.bel.cell (p := ⟨(aj.add (t * 2)).block, (aj.add (t * 2)).off + 1, none⟩) (show (aj.add (t * 2)).block < w6.heap.size by rw [addr_block]; exact hbj)).trans j1
              clear j0 j1 j2
              first | rw [eJ] | (obtain rfl : ad = aj := by (have := eJ; rw [← HIJ.out, hA] at this; injection this))
              have HL5 := Lib.hid (HQ.out.newB [.int .i64 (knAt (KS J) t).val, .slice (some ⟨gj, 0, none⟩) n cj] 38 2 rfl _ rfl)
              go_wp2
              refine at_lay (F := fun W' => Code.wp _ _ _ _ W') HL5.out ?_
              intro W9 hW
              have HW := Lib.hid hW
              clear hW HL5 w0 w1
              generalize wr.heap.size = bk at HW ⊢
              have s0 := HW.out.cellB 0 rfl 0 (by omega)
              have s1 := HW.out.cellB 0 rfl 1 (by omega)
              have c1 := HW.out.cellB 1 rfl 1 (by omega)
              simp only [ofL_0, ofL_1] at s0 s1 c1
              have gI := (HG.out.to HW.out.bel).K I hI
              obtain ⟨ai, gi, ci, eI, hbi, i0, i1, i2⟩ := (HG.out.to HW.out.bel).L I hI 0 (by omega)
              have i1' : W9.cell? ⟨ai.block, ai.off + 1, none⟩ = some (.slice (some ⟨gi, 0, none⟩) n ci) := by simpa [Addr.add] using i1
              rw [eI] at gI
              have HRI := Lib.hid i2
              have HRJ := Lib.hid (HJ2.out.below HW.out.bel)
              have HNX := HNO.out t
              clear i0 i2
              obtain ⟨u, hu⟩ : ∃ u, u = (knAt (KS J) t).val := ⟨_, rfl⟩
              rw [← hu] at s0
              have HU := Lib.hid hu
              clear hu
              by_cases hv : u = v
              · have hvb : (u == v) = true := by simpa using hv
                by_cases hE : Eqv n (knAt (KS J) t).vec (knAt (KS I) 0).vec
                · clear hv
                  refine wp_text 15 (by kernel_rfl) (by kernel_rfl) (by kernel_rfl) (by repeat' (first | (with_reducible apply tame_then) | (with_reducible apply tame_block) | (with_reducible apply tame_scope) | exact tame_gives | exact tame_body (fun _ _ h => ⟨_, h.1⟩))) ?_
                  simp only [List.take_succ_cons, List.take_zero, List.drop_succ_cons, List.drop_zero]
                  go_wp2
                  refine headed ?_
                  go_wp2_with fail
                  refine (ints_any n cj ci w6.heap.size _ _ (knAt (KS J) t).vec (knAt (KS I) 0).vec true W9.drew (by omega) ⟨fun _ => hE, fun _ => rfl⟩ (HRJ.out.drewN 1) (HRI.out.drewN 1)).mono ?_
                  rintro e w10 ⟨rfl, hs⟩
                  have HW10 := Lib.hid (HW.out.drew.sim hs)
                  clear hs
                  go_wp2
                  go_ret
                  exact ⟨rfl, HBW.out.trans (HW10.out.bel.mono HBW.out.size)⟩
                · have HN2 : Hid (∀ s, s < t + 1 → ¬ ((knAt (KS J) s).val = v ∧ Eqv n (knAt (KS J) s).vec (knAt (KS I) 0).vec)) := Lib.hid fun s hs => (Nat.lt_succ_iff_lt_or_eq.1 hs).elim (HNO.out s) (fun e => by subst e; exact fun h => hE h.2)
                  clear hv
                  refine wp_text 15 (by kernel_rfl) (by kernel_rfl) (by kernel_rfl) (by repeat' (first | (with_reducible apply tame_then) | (with_reducible apply tame_block) | (with_reducible apply tame_scope) | exact tame_gives | exact tame_body (fun _ _ h => ⟨_, h.1⟩))) ?_
                  simp only [List.take_succ_cons, List.take_zero, List.drop_succ_cons, List.drop_zero]
                  go_wp2
                  refine headed ?_
                  go_wp2_with fail
                  refine (ints_any n cj ci w6.heap.size _ _ (knAt (KS J) t).vec (knAt (KS I) 0).vec false W9.drew (by omega) ⟨fun h => absurd h (by simp), fun h => absurd h hE⟩ (HRJ.out.drewN 1) (HRI.out.drewN 1)).mono ?_
                  rintro e w10 ⟨rfl, hs⟩
                  have HW10 := Lib.hid (HW.out.drew.sim hs)
                  clear hs
                  go_wp2
                  go_roundw
                  case rel => exact ⟨t + 1, by omega, by go_num, Lib.hid HW10.out.tail, HN2⟩
                  case measure => first | (simp [intOf]; done) | (simp [intOf]; omega)
              · have hvb : (u == v) = false := by simpa using hv
                have HN2 : Hid (∀ s, s < t + 1 → ¬ ((knAt (KS J) s).val = v ∧ Eqv n (knAt (KS J) s).vec (knAt (KS I) 0).vec)) := Lib.hid fun s hs => (Nat.lt_succ_iff_lt_or_eq.1 hs).elim (HNO.out s) (fun e => by subst e; exact fun h => hv (by rw [HU.out]; exact h.1))
                clear hv
                refine wp_text 15 (by kernel_rfl) (by kernel_rfl) (by kernel_rfl) (by repeat' (first | (with_reducible apply tame_then) | (with_reducible apply tame_block) | (with_reducible apply tame_scope) | exact tame_gives | exact tame_body (fun _ _ h => ⟨_, h.1⟩))) ?_
                simp only [List.take_succ_cons, List.take_zero, List.drop_succ_cons, List.drop_zero]
                go_wp2
                refine headed ?_
                go_wp2
                go_roundw
                case rel => exact ⟨t + 1, by omega, by go_num, Lib.hid (HW.out.drew.tail), HN2⟩
                case measure => first | (simp [intOf]; done) | (simp [intOf]; omega)
            · exfalso
              obtain ⟨t', h1, h2, h3⟩ := HX.out.2.2
              exact HNO.out t' (by omega) ⟨h2, h3⟩
theorem gossipOwn_all (n : Int) (A : Option Addr) (m cap : Nat) (M : Mv) (i j v : Int) (w : World) (_ : (Lit.int .i64 n).wf = true) (hmc : m ≤ cap ∧ cap * 32 ≤ 140737488351232) (hr : Rd w w.heap.size A (m * 4) (mvF M)) (_ : (Lit.int .i64 i).wf = true) (_ : (Lit.int .i64 j).wf = true) (_ : (Lit.int .i64 v).wf = true) :
    Calls Try.prog 5 #[.int .i64 n, .slice A m cap, .int .i64 i, .int .i64 j, .int .i64 v] w fun e w' => e = .returned (.bool true) ∧ Below w.heap.size w w' := by
  cases hb : playedB n (m + 2 : Nat)
  · exact gossipOwn_bad n i j v m cap A M w hmc.1 hmc.2 hr hb
  · obtain ⟨h1, h2, h3⟩ := playedB_iff.1 hb
    obtain ⟨n, rfl⟩ := Int.eq_ofNat_of_zero_le (show 0 ≤ n by omega)
    exact gossipOwn_good n m cap i j v A M w hmc.1 hmc.2 hr (by omega) (by omega) (by omega)
end Go.Proofs.Ytdpigpjcldcoaaa
