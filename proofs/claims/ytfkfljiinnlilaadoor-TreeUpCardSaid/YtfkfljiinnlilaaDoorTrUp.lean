/- The law TreeUp, walked. -/
import Derived.Test.YtfkfljiinnlilaaDoorTrUpL
import Derived.Test.YtfkfljiinnlilaaDoorTrOpen
import Derived.Test.YtfkfljiinnlilaaDoorHeld
import Derived.Sort.Walk0
set_option linter.unusedVariables false
set_option linter.unusedSimpArgs false
namespace Go.Proofs.YtfkfljiinnlilaaDoor
open Go.RowKit Go.Lib
theorem names_less {l : List Str} (h : l.Pairwise fun x y => x ≤ y ∧ x ≠ y) {j : Nat} (hj : j < l.length) (h0 : 0 < j) : Op.bytesLess (l.getD (j - 1) []) (l.getD j []) = true := by
  rw [bytesLess_eq, decide_eq_true_eq]
  have e1 : l.getD (j - 1) [] = l[j - 1] := by simp [List.getD_eq_getElem?_getD, List.getElem?_eq_getElem (show j - 1 < l.length by omega)]
  have e2 : l.getD j [] = l[j] := by simp [List.getD_eq_getElem?_getD, List.getElem?_eq_getElem hj]
  rw [e1, e2]
  obtain ⟨h1, h2⟩ := List.pairwise_iff_getElem.1 h (j - 1) j (by omega) hj (by omega)
  rcases List.le_iff_lt_or_eq.1 h1 with h3 | h3
  · exact h3
  · exact absurd h3 h2
theorem names_no {l : List Str} {j : Nat} {x z : Str} (h : false = true ↔ ∃ t, t < j ∧ l[t]? = some z) (hx : l.getD j [] = x) (he : ((bs x).toList == (bs z).toList) = false) : false = true ↔ ∃ t, t < j + 1 ∧ l[t]? = some z := by
  refine ⟨fun h => (by cases h), fun ⟨t, ht, e⟩ => ?_⟩
  rcases Nat.lt_succ_iff_lt_or_eq.1 ht with h1 | rfl
  · exact h.2 ⟨t, h1, e⟩
  · rw [List.getD_eq_getElem?_getD, e] at hx
    have hx : z = x := hx
    rw [hx] at he
    simp at he
theorem names_yes {l : List Str} {j : Nat} {x z : Str} (hj : j < l.length) (hx : l.getD j [] = x) (he : ((bs x).toList == (bs z).toList) = true) : true = true ↔ ∃ t, t < j + 1 ∧ l[t]? = some z := by
  refine ⟨fun _ => ⟨j, by omega, ?_⟩, fun _ => rfl⟩
  rw [bs_toList, bs_toList] at he
  have e : x = z := eq_of_beq he
  rw [← e, ← hx, List.getD_eq_getElem?_getD, List.getElem?_eq_getElem hj]
  rfl
theorem names_on {l : List Str} {j : Nat} {z : Str} (h : true = true ↔ ∃ t, t < j ∧ l[t]? = some z) : true = true ↔ ∃ t, t < j + 1 ∧ l[t]? = some z := by
  obtain ⟨t, ht, e⟩ := h.1 rfl
  exact ⟨fun _ => ⟨t, by omega, e⟩, fun _ => rfl⟩
set_option maxRecDepth 100000 in
set_option maxHeartbeats 1600000 in
theorem treeUp_bad (m cap : Nat) (A : Option Addr) (D : Nat → Deed) (p : Str) (w : World) (hm : 59 < m) (hb : m * 48 ≤ 140737488351232) (hr : Rd w w.heap.size A (m * 4) (ddF D)) :
    Calls Tryd.prog 3 #[.slice A m cap, .string (bs p)] w fun e w' => e = .returned (.bool true) ∧ Below w.heap.size w w' := by
  have HR := Lib.hid hr; clear hr
  go_enter Tryd.func3, Tryd.ntmps3
  go_wp2_with (first
    | (at_builtin; refine wpList_apDs rfl (.tmp 21) (.tmp 22) rfl w.heap.size rfl (Own.empty _ _ _ _ (ddF (fun _ => Dz)) _ (by simp) (by simp)) rfl (HR.out.alloc (Nat.le_refl _) _) m (Nat.zero_add m) (by unfold maxLen; omega) (by omega) (by simp) ?_; intro A3 c3 w3 ho3 hg3 ha3
       have HL3 : Hid (Lay w w3 [dds A3 m c3 (appD (fun _ => Dz) 0 D)]) := (((Lay.nil w).new #[] 28 4 0 (ddF (fun _ => Dz)) _ rfl rfl (by unfold maxLen; omega) (fun j hj => absurd hj (by omega))).app 0 rfl ho3 hg3 ha3)
       rw [appD_zero] at HL3
       clear ho3 hg3 ha3)
    | (at_builtin; refine wpList_apDs rfl (.tmp 23) (.tmp 26) rfl w.heap.size rfl ((HL3.out.alloc _).own 0 _ rfl) rfl (new_deeds w3 [Dz, Dz] _) (m + 2) rfl (by unfold maxLen; omega) (by omega) (HL3.out.alloc _).size ?_; intro A5 c5 w5 ho5 hg5 ha5
       have HL5 := Lib.hid ((HL3.out.alloc _).app 0 rfl ho5 hg5 ha5)
       clear ho5 hg5 ha5 HL3)
    | fail)
  refine (play_bad (m + 2) c5 A5 w5 (by unfold maxLen; omega) (by omega)).mono ?_
  rintro e w6 ⟨rfl, rfl⟩
  go_wp2
  go_ret
  exact ⟨rfl, HL5.out.bel⟩
set_option maxRecDepth 100000 in
set_option maxHeartbeats 3200000 in
theorem treeUp_good (m cap : Nat) (A : Option Addr) (D : Nat → Deed) (p : Str) (w : World) (hm : m ≤ 59) (hD : ∀ i, i < m → DeedL (D i)) (hp : p.length ≤ 140737488351232) (hr : Rd w w.heap.size A (m * 4) (ddF D)) :
    Calls Tryd.prog 3 #[.slice A m cap, .string (bs p)] w fun e w' => e = .returned (.bool true) ∧ Below w.heap.size w w' := by
  have HRW := Lib.hid hr
  have HG := Lib.hid (grown_any m cap A D p w (by omega) hD hp hr)
  have HD : Hid (∀ i, i < m + 1 → DeedL (appD D m (lsD [⟨5, parL p, [], 0⟩]) i)) := Lib.hid (appD_L (l := [⟨5, parL p, [], 0⟩]) hD fun d hd => by
    obtain rfl := List.mem_singleton.1 hd
    refine ⟨?_, by show (0 : Nat) ≤ _; omega⟩
    show (p.take _).length ≤ _
    rw [List.length_take]; omega)
  have HLEN : Hid ((doS (runS T0 D m) ⟨5, parL p, [], 0⟩).1.names.length ≤ 12) := Lib.hid (ans_len (run_ok D m hD) _)
  have HLAW := Lib.hid (upLaw (run_ok D m hD) (run_nodup D m) p)
  have HNAME : Hid (∀ w, Calls Tryd.prog 9 #[.string (bs p)] w fun e w' => e = .returned (.bool (nameB p)) ∧ w' = w) := Lib.hid fun w => by
    rw [name_is]; exact refName_any p w hp
  have hps := bs_size p
  clear hr hD
  go_enter Tryd.func3, Tryd.ntmps3
  go_upto_region 5 with (go_at_call 8
                         refine HG.out.mono ?_
                         rintro e w1 ⟨NA, NC, a, rfl, ha, hb, hn⟩
                         rw [← ha] at HLAW
                         have HB1 := Lib.hid hb
                         clear ha hb hn HG
                         unfold toldV)
  refine at_world (F := fun W' => Code.wp _ _ _ _ W') (fun W => Rd W W.heap.size A (m * 4) (ddF D) ∧ Lay w1 W [blk w1.heap.size 31 4 (ofL (toldL NA NC a))]) ⟨?h1, (Lay.nil w1).newB (toldL NA NC a) 31 4 rfl _ rfl⟩ ?_
  case h1 =>
    exact ((HRW.out.below HB1.out).more HB1.out.size).alloc (Nat.le_refl _) _ |>.more (by simp)
  rintro W ⟨hR, hL⟩
  have HR := Lib.hid hR
  have HW := Lib.hid hL
  clear hR hL HRW
  have HBW : Hid (Below w.heap.size w W) := Lib.hid (HB1.out.trans (HW.out.bel.mono HB1.out.size))
  generalize hta : w1.heap.size = ta at HW ⊢
  have a0 := HW.out.cellB 0 rfl 0 (by omega)
  simp only [toldL, ofL_0] at a0
  clear HW hta HB1
  by_cases hac : a.code = 0
  · by_cases hroot : p = [47]
    · have e1 : ((bs p).toList == [47]) = true := by rw [bs_toList, hroot]; rfl
      rw [hac] at a0
      clear hac hroot
      go_wp2
      refine bodyPost_ret (v := .bool true) (by simp [results, Tryd.results3, go_sem]) rfl ?_
      exact ⟨rfl, HBW.out⟩
    · have e1 : ((bs p).toList == [47]) = false := by rw [bs_toList]; simpa using hroot
      obtain ⟨y1, y2, y3, y4⟩ := HLAW.out.yes hac hroot
      have Y1 := Lib.hid y1
      have Y2 := Lib.hid y2
      have Y3 := Lib.hid y3
      have Y4 := Lib.hid y4
      have HR0 := Lib.hid (name_shape y1 hroot).1
      rw [hac] at a0
      clear hac hroot y1 y2 y3 y4 HLAW
      go_wp2_with (first
        | (go_at_call 9
           refine (HNAME.out _).mono ?_
           rintro e w' ⟨rfl, hw'⟩
           subst w'
           rw [Y1.out])
        | (go_at_call 10
           refine (refParent_any p _ HR0.out hp).mono ?_
           rintro e w' ⟨rfl, hw'⟩
           subst w'
           clear a0
           have HR2 : Hid (Rd W.drew W.drew.heap.size A (m * 4) (ddF D)) := Lib.hid HR.out)
        | (at_builtin; refine wpList_apDs rfl (.tmp 66) (.tmp 67) rfl W.drew.heap.size rfl (Own.empty _ _ _ _ (ddF (fun _ => Dz)) _ (by simp) (by simp)) rfl (HR2.out.alloc (Nat.le_refl _) _) m (Nat.zero_add m) (by unfold maxLen; omega) (by omega) (by simp) ?_; intro A3 c3 w3 ho3 hg3 ha3
           have HL3 : Hid (Lay W.drew w3 [dds A3 m c3 (appD (fun _ => Dz) 0 D)]) := (((Lay.nil W.drew).new #[] 28 4 0 (ddF (fun _ => Dz)) _ rfl rfl (by unfold maxLen; omega) (fun j hj => absurd hj (by omega))).app 0 rfl ho3 hg3 ha3)
           rw [appD_zero] at HL3
           clear ho3 hg3 ha3)
        | (at_builtin; refine wpList_apDs rfl (.tmp 68) (.tmp 71) rfl W.drew.heap.size rfl ((HL3.out.alloc _).own 0 _ rfl) rfl (new_deeds w3 [⟨5, parL p, [], 0⟩] _) (m + 1) rfl (by unfold maxLen; omega) (by omega) (HL3.out.alloc _).size ?_; intro A5 c5 w5 ho5 hg5 ha5
           have HL5 := Lib.hid ((HL3.out.alloc _).app 0 rfl ho5 hg5 ha5)
           clear ho5 hg5 ha5 HL3)
        | fail)
      refine (play_law (m + 1) c5 w5.heap.size A5 (appD D m (lsD [⟨5, parL p, [], 0⟩])) w5 (by omega) (Nat.le_refl _) HD.out (HL5.out.rd 0 rfl)).mono ?_
      rintro e w6 ⟨AA, cA, NB, NCB, rfl, hb6, hP, -⟩
      have hbw := HL5.out.bel.trans (hb6.mono HL5.out.size)
      have HFIN : Hid (Below w.heap.size w w6) := Lib.hid (HBW.out.drew.trans (hbw.mono HBW.out.size))
      have k1 : ansS T0 (appD D m (lsD [⟨5, parL p, [], 0⟩])) m = (doS (runS T0 D m) ⟨5, parL p, [], 0⟩).1 := ansS_app D (lsD [⟨5, parL p, [], 0⟩]) m 0
      have HN := Lib.hid (hP.N m (by omega))
      have HLE := Lib.hid hP.le
      obtain ⟨ad, rfl, -, m0, m1, m2, m3⟩ := hP.rec4 (show m < m + 1 by omega)
      rw [k1] at HN m0 m1 m2 m3
      generalize (doS (runS T0 D m) ⟨5, parL p, [], 0⟩).1 = b at *
      rw [Y2.out] at m0
      have e0 : (((m + 1 : Nat) : Int) != (m : Int) + 1) = false := by simp
      obtain ⟨bc, bd, bv, bn⟩ := b
      dsimp only at *
      obtain ⟨n, hn⟩ : ∃ n, bn.length = n := ⟨_, rfl⟩
      rw [hn] at HN m3 HLEN
      have HNN := Lib.hid hn
      have hn12 := HLEN.out
      clear hn hb6 hP HL5 hbw k1 HBW HR HD HNAME HLEN m1 m2
      generalize NB m = AN at *
      generalize NCB m = cN at *
      have HI0 : Hid (false = true ↔ ∃ t, t < 0 ∧ bn[t]? = some (lstL p)) := Lib.hid ⟨fun h => (by cases h), fun ⟨t, h, _⟩ => absurd h (by omega)⟩
      go_wp2
      go_loopw [13, 103] (fun v i wr => ∃ (j : Nat) (isb : Bool), j ≤ n ∧ i = .int .i64 (j : Nat) ∧ v = .bool isb ∧ wr = w6 ∧ Hid (isb = true ↔ ∃ t, t < j ∧ bn[t]? = some (lstL p))) (fun _ i _ => n - (intOf i).toNat)
      case atStart => exact ⟨0, false, by omega, rfl, rfl, rfl, HI0⟩
      case round =>
        clear HI0 m0 m3
        obtain ⟨j, isb, hj, rfl, rfl, hwr, HI⟩ := hrel
        subst wr
        by_cases hlt : j < n
        · obtain ⟨an, ean, -, hc⟩ := HN.out (by omega)
          subst ean
          obtain ⟨x, hxx⟩ : ∃ x, bn.getD j [] = x := ⟨_, rfl⟩
          have hx : w6.cell? (an.add j) = some (.string (bs x)) := by rw [hc j hlt, ← hxx]; rfl
          obtain ⟨eq, heq⟩ : ∃ c, ((bs x).toList == (bs (lstL p)).toList) = c := ⟨_, rfl⟩
          by_cases j0 : 0 < j
          · obtain ⟨y, hyy⟩ : ∃ y, bn.getD (j - 1) [] = y := ⟨_, rfl⟩
            have hy : w6.cell? (an.add (j - 1)) = some (.string (bs y)) := by rw [hc (j - 1) (by omega), ← hyy]; rfl
            have HXX := Lib.hid hxx
            have HYY := Lib.hid hyy
            clear hc hxx hyy
            have hby : Op.bytesLess (bs y).toList (bs x).toList = true := by
              rw [bs_toList, bs_toList, ← HXX.out, ← HYY.out]
              exact names_less Y4.out (by rw [HNN.out]; exact hlt) j0
            cases isb
            · cases eq
              · go_wp2
                go_roundw
                case rel => exact ⟨j + 1, false, by omega, by go_num, rfl, trivial, Lib.hid (names_no HI.out HXX.out heq)⟩
                case measure => simp [intOf]; omega
              · go_wp2
                go_roundw
                case rel => exact ⟨j + 1, true, by omega, by go_num, rfl, trivial, Lib.hid (names_yes (by rw [HNN.out]; exact hlt) HXX.out heq)⟩
                case measure => simp [intOf]; omega
            · go_wp2
              go_roundw
              case rel => exact ⟨j + 1, true, by omega, by go_num, rfl, trivial, Lib.hid (names_on HI.out)⟩
              case measure => simp [intOf]; omega
          · have HXX := Lib.hid hxx
            clear hc hxx
            obtain rfl : isb = false := by
              cases isb
              · rfl
              · obtain ⟨t, ht, _⟩ := HI.out.1 rfl
                omega
            cases eq
            · go_wp2
              go_roundw
              case rel => exact ⟨j + 1, false, by omega, by go_num, rfl, trivial, Lib.hid (names_no HI.out HXX.out heq)⟩
              case measure => simp [intOf]; omega
            · go_wp2
              go_roundw
              case rel => exact ⟨j + 1, true, by omega, by go_num, rfl, trivial, Lib.hid (names_yes (by rw [HNN.out]; exact hlt) HXX.out heq)⟩
              case measure => simp [intOf]; omega
        · obtain rfl : n = j := by omega
          obtain rfl : isb = true := HI.out.2 (by
            obtain ⟨t, ht, e⟩ := List.mem_iff_getElem.1 Y3.out
            exact ⟨t, by rw [← HNN.out]; exact ht, by rw [List.getElem?_eq_getElem ht, e]⟩)
          go_wp2
          refine bodyPost_ret (v := .bool true) (by simp [results, Tryd.results3, go_sem]) rfl ?_
          exact ⟨rfl, HFIN.out⟩
  · obtain ⟨hroot, hcode⟩ := HLAW.out.no hac
    have e1 : ((bs p).toList == [47]) = false := by rw [bs_toList]; simpa using hroot
    have x1 : (a.code != 0) = true := by simpa using hac
    obtain ⟨nb, hnb⟩ : ∃ b, nameB p = b := ⟨_, rfl⟩
    rw [hnb] at hcode
    have hx2 : (a.code == 3) = !nb := by
      cases nb
      · simpa using hcode
      · simp at hcode; simpa using hcode
    have HNB := Lib.hid hnb
    clear hac hroot hcode HLAW hnb
    generalize a.code = ac at *
    go_upto_region 8 with (fail)
    refine wp_held_mask (fun W => W.cell? ⟨ta, 0, none⟩ = some (.int .i64 ac)) [true, true, true, true, true, true, true, false, false, false, false, false] ?A1 (by kernel_rfl) rfl (by kernel_rfl) (by repeat' (first | (with_reducible apply tame_then) | (with_reducible apply tame_block) | (with_reducible apply tame_scope) | exact tame_gives | exact tame_body (fun _ _ h => ⟨_, h.1⟩))) a0 ?head ?tail
    case head =>
      intro W5 s0
      simp only [pick]
      go_wp2
      exact taken
    case tail =>
      simp only [pick, List.map_cons, List.map_nil, Bool.not_true, Bool.not_false]
      refine tail_step ?_
      go_wp2_with (go_at_call 9
                   refine (HNAME.out _).mono ?_
                   rintro e w' ⟨rfl, hw'⟩
                   subst w'
                   rw [HNB.out])
      cases nb
      all_goals
        refine holds a0 ?_
        refine tail_step ?_
        go_wp2
        refine holds a0 ?_
        refine tail_step ?_
        go_wp2
        refine holds a0 ?_
        refine tail_step ?_
        go_wp2
        refine holds a0 ?_
        refine tail_last ?_
        go_wp2
        refine bodyPost_ret (v := .bool true) (by simp [results, Tryd.results3, go_sem]) rfl ?_
        exact ⟨rfl, HBW.out.drew⟩
theorem treeUp_all (A : Option Addr) (n cap : Nat) (D : Nat → Deed) (p : Str) (w : World) (hb : n ≤ cap ∧ cap * 48 ≤ 140737488351232) (hD : ∀ i, i < n → DeedL (D i)) (hr : Rd w w.heap.size A (n * 4) (ddF D)) (hp : p.length ≤ 140737488351232) :
    Calls Tryd.prog 3 #[.slice A n cap, .string (bs p)] w fun e w' => e = .returned (.bool true) ∧ Below w.heap.size w w' := by
  rcases Nat.lt_or_ge 59 n with h | h
  · exact treeUp_bad n cap A D p w h (by omega) hr
  · exact treeUp_good n cap A D p w h hD hp hr
end Go.Proofs.YtfkfljiinnlilaaDoor
