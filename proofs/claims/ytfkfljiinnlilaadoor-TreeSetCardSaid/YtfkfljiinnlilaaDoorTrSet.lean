/- The law TreeSet, walked. -/
import Derived.Test.YtfkfljiinnlilaaDoorTrGrown
set_option linter.unusedVariables false
set_option linter.unusedSimpArgs false
namespace Go.Proofs.YtfkfljiinnlilaaDoor
open Go.RowKit

theorem doS_get (st : TS) (p y : Str) (v : Int) : doS st ⟨4, p, y, v⟩ = if nameB p = false then (A0 3, st) else if p ∉ st.ks then (A0 5, st) else (⟨0, st.dat p, st.ver p, []⟩, st) := by
  unfold doS
  rw [if_neg (by show ¬ ((4 : Int) < 1 ∨ (5 : Int) < 4); decide)]
  show (if nameB p = false then _ else _) = _
  by_cases h1 : nameB p = false
  · rw [if_pos h1, if_pos h1]
  rw [if_neg h1, if_neg h1, if_neg (fun h => h.1.elim (fun h => absurd h (show ¬ (4 : Int) = 1 by decide)) (fun h => absurd h (show ¬ (4 : Int) = 2 by decide))), if_neg (by show ¬ (4 : Int) = 1; decide), if_neg (fun h => absurd h.1 (by show ¬ (4 : Int) = 3; decide))]
  show (if p ∉ st.ks then _ else _) = _
  by_cases h2 : p ∉ st.ks
  · rw [if_pos h2, if_pos h2]
  rw [if_neg h2, if_neg h2, if_pos rfl]
theorem doS_set (st : TS) (p x : Str) (dv : Int) : doS st ⟨2, p, x, dv⟩ = if nameB p = false then (A0 3, st) else if 20 < x.length then (A0 1, st) else if p ∉ st.ks then (A0 5, st) else if 0 ≤ dv ∧ dv ≠ st.ver p then (A0 8, st) else (⟨0, [], st.ver p + 1, []⟩, putS st p x (st.ver p + 1)) := by
  unfold doS
  rw [if_neg (by show ¬ ((2 : Int) < 1 ∨ (5 : Int) < 2); decide)]
  show (if nameB p = false then _ else _) = _
  by_cases h1 : nameB p = false
  · rw [if_pos h1, if_pos h1]
  rw [if_neg h1, if_neg h1]
  by_cases h3 : 20 < x.length
  · rw [if_pos ⟨.inr rfl, h3⟩, if_pos h3]
  rw [if_neg (fun h => h3 h.2), if_neg h3, if_neg (by show ¬ (2 : Int) = 1; decide), if_neg (fun h => absurd h.1 (by show ¬ (2 : Int) = 3; decide))]
  show (if p ∉ st.ks then _ else _) = _
  by_cases h2 : p ∉ st.ks
  · rw [if_pos h2, if_pos h2]
  rw [if_neg h2, if_neg h2, if_neg (by show ¬ (2 : Int) = 4; decide), if_neg (by show ¬ (2 : Int) = 5; decide)]
  show (if 0 ≤ dv ∧ dv ≠ st.ver p then _ else _) = _
  by_cases h4 : 0 ≤ dv ∧ dv ≠ st.ver p
  · rw [if_pos h4, if_pos h4]
  rw [if_neg h4, if_neg h4, if_pos rfl]
structure SetLaw (x : Str) (dv : Int) (a b c : Ans) : Prop where
  no : a.code ≠ 0 → b.code ≠ 0 ∧ c.code = a.code
  old : a.code = 0 → b.code ≠ 0 → c = a ∧ (b.code = 8 ↔ x.length ≤ 20 ∧ 0 ≤ dv ∧ dv ≠ a.ver)
  new : a.code = 0 → b.code = 0 → c.data = x ∧ c.ver = a.ver + 1 ∧ b.ver = c.ver ∧ (dv < 0 ∨ dv = a.ver)
theorem setLaw (st : TS) (p x : Str) (dv : Int) : SetLaw x dv (doS st ⟨4, p, [], 0⟩).1 (doS st ⟨2, p, x, dv⟩).1 (doS (doS st ⟨2, p, x, dv⟩).2 ⟨4, p, [], 0⟩).1 := by
  rw [doS_set, doS_get, doS_get]
  by_cases h1 : nameB p = false
  · simp only [if_pos h1]
    exact ⟨fun _ => ⟨by simp [A0], rfl⟩, fun h => absurd h (by simp [A0]), fun h => absurd h (by simp [A0])⟩
  simp only [if_neg h1]
  by_cases h2 : p ∉ st.ks
  · simp only [if_pos h2]
    have hc : ∀ y : Ans × TS, y.1.code ≠ 0 → y.2 = st → SetLaw x dv (A0 5, st).1 y.1 (if p ∉ y.2.ks then (A0 5, y.2) else (⟨0, y.2.dat p, y.2.ver p, []⟩, y.2)).1 := fun y h3 h4 => by
      rw [h4, if_pos h2]
      exact ⟨fun _ => ⟨h3, rfl⟩, fun h => absurd h (by simp [A0]), fun h => absurd h (by simp [A0])⟩
    by_cases h3 : 20 < x.length
    · simp only [if_pos h3]; exact hc (A0 1, st) (by simp [A0]) rfl
    · simp only [if_neg h3]; exact hc (A0 5, st) (by simp [A0]) rfl
  simp only [if_neg h2]
  by_cases h3 : 20 < x.length
  · simp only [if_pos h3, if_neg h2]
    exact ⟨fun h => absurd rfl h, fun _ _ => ⟨rfl, fun h => absurd h (by simp [A0]), fun h => absurd h.1 (by omega)⟩, fun _ h => absurd h (by simp [A0])⟩
  simp only [if_neg h3]
  by_cases h4 : 0 ≤ dv ∧ dv ≠ st.ver p
  · simp only [if_pos h4, if_neg h2]
    exact ⟨fun h => absurd rfl h, fun _ _ => ⟨rfl, fun _ => ⟨by omega, h4⟩, fun _ => rfl⟩, fun _ h => absurd h (by simp [A0])⟩
  simp only [if_neg h4]
  have hin : p ∈ (putS st p x (st.ver p + 1)).ks := by
    show p ∈ (if p ∈ st.ks then st.ks else st.ks ++ [p])
    rw [if_pos (Classical.not_not.1 h2)]; exact Classical.not_not.1 h2
  simp only [if_neg (not_not_intro hin)]
  refine ⟨fun h => absurd rfl h, fun _ h => absurd rfl h, fun _ _ => ⟨if_pos rfl, ?_, ?_, ?_⟩⟩
  · show (((putS st p x (st.ver p + 1)).ver p : Nat) : Int) = _
    have : (putS st p x (st.ver p + 1)).ver p = st.ver p + 1 := if_pos rfl
    rw [this]; rfl
  · show ((st.ver p : Nat) : Int) + 1 = (((putS st p x (st.ver p + 1)).ver p : Nat) : Int)
    have : (putS st p x (st.ver p + 1)).ver p = st.ver p + 1 := if_pos rfl
    rw [this]; rfl
  · show dv < 0 ∨ dv = ((st.ver p : Nat) : Int)
    rcases Int.lt_or_le dv 0 with h | h
    · exact .inl h
    · exact .inr (Classical.byContradiction fun h5 => h4 ⟨h, h5⟩)
set_option maxRecDepth 100000 in
set_option maxHeartbeats 1600000 in
theorem treeSet_bad (m cap : Nat) (A : Option Addr) (D : Nat → Deed) (p x : Str) (dv : Int) (w : World) (hm : 58 < m) (hb : m * 48 ≤ 140737488351232) (hr : Rd w w.heap.size A (m * 4) (ddF D)) :
    Calls Tryd.prog 4 #[.slice A m cap, .string (bs p), .string (bs x), .int .i64 dv] w fun e w' => e = .returned (.bool true) ∧ Below w.heap.size w w' := by
  have HR := Lib.hid hr; clear hr
  go_enter Tryd.func4, Tryd.ntmps4
  go_wp2_with (first
    | (at_builtin; refine wpList_apDs rfl (.tmp 21) (.tmp 22) rfl w.heap.size rfl (Own.empty _ _ _ _ (ddF (fun _ => Dz)) _ (by simp) (by simp)) rfl (HR.out.alloc (Nat.le_refl _) _) m (Nat.zero_add m) (by unfold maxLen; omega) (by omega) (by simp) ?_; intro A3 c3 w3 ho3 hg3 ha3
       have HL3 : Hid (Lay w w3 [dds A3 m c3 (appD (fun _ => Dz) 0 D)]) := (((Lay.nil w).new #[] 28 4 0 (ddF (fun _ => Dz)) _ rfl rfl (by unfold maxLen; omega) (fun j hj => absurd hj (by omega))).app 0 rfl ho3 hg3 ha3)
       rw [appD_zero] at HL3
       clear ho3 hg3 ha3)
    | (at_builtin; refine wpList_apDs rfl (.tmp 23) (.tmp 27) rfl w.heap.size rfl ((HL3.out.alloc _).own 0 _ rfl) rfl (new_deeds w3 [Dz, Dz, Dz] _) (m + 3) rfl (by unfold maxLen; omega) (by omega) (HL3.out.alloc _).size ?_; intro A5 c5 w5 ho5 hg5 ha5
       have HL5 := Lib.hid ((HL3.out.alloc _).app 0 rfl ho5 hg5 ha5)
       clear ho5 hg5 ha5 HL3)
    | fail)
  refine (play_bad (m + 3) c5 A5 w5 (by unfold maxLen; omega) (by omega)).mono ?_
  rintro e w6 ⟨rfl, rfl⟩
  go_wp2
  go_ret
  exact ⟨rfl, HL5.out.bel⟩
set_option maxRecDepth 100000 in
set_option maxHeartbeats 3200000 in
theorem treeSet_good (m cap : Nat) (A : Option Addr) (D : Nat → Deed) (p x : Str) (dv : Int) (w : World) (hm : m ≤ 58) (hD : ∀ i, i < m → DeedL (D i)) (hp : p.length ≤ 140737488351232) (hx : x.length ≤ 140737488351232) (hr : Rd w w.heap.size A (m * 4) (ddF D)) :
    Calls Tryd.prog 4 #[.slice A m cap, .string (bs p), .string (bs x), .int .i64 dv] w fun e w' => e = .returned (.bool true) ∧ Below w.heap.size w w' := by
  have HRW := Lib.hid hr
  have HG := Lib.hid (grown_any m cap A D p w (by omega) hD hp hr)
  have HD : Hid (∀ i, i < m + 2 → DeedL (appD D m (lsD [⟨2, p, x, dv⟩, ⟨4, p, [], 0⟩]) i)) := Lib.hid (appD_L (l := [⟨2, p, x, dv⟩, ⟨4, p, [], 0⟩]) hD fun d hd => by
    rcases List.mem_cons.1 hd with rfl | hd
    · exact ⟨hp, hx⟩
    · obtain rfl := List.mem_singleton.1 hd
      exact ⟨hp, by show (0 : Nat) ≤ _; omega⟩)
  have HLEN : Hid ((doS (runS T0 D m) ⟨4, p, [], 0⟩).1.names.length ≤ 12) := Lib.hid (ans_len (run_ok D m hD) _)
  have HVER : Hid (0 ≤ (doS (runS T0 D m) ⟨4, p, [], 0⟩).1.ver ∧ (doS (runS T0 D m) ⟨4, p, [], 0⟩).1.ver ≤ 59) := Lib.hid (by have := ans_ver (run_ok D m hD) ⟨4, p, [], 0⟩; omega)
  have HLAW := Lib.hid (setLaw (runS T0 D m) p x dv)
  have hxs := bs_size x
  clear hr hD
  go_enter Tryd.func4, Tryd.ntmps4
  go_upto_region 5 with (go_at_call 8
                         refine HG.out.mono ?_
                         rintro e w1 ⟨NA, NC, a, rfl, ha, hb, hn⟩
                         rw [← ha] at HLEN HLAW HVER
                         have HB1 := Lib.hid hb
                         have HN1 := Lib.hid hn
                         clear ha hb hn HG
                         unfold toldV)
  refine at_world (F := fun W' => Code.wp _ _ _ _ W') (fun W => Rd W W.heap.size A (m * 4) (ddF D) ∧ Lay w1 W [blk w1.heap.size 31 4 (ofL (toldL NA NC a))]) ⟨?h1, (Lay.nil w1).newB (toldL NA NC a) 31 4 rfl _ rfl⟩ ?_
  case h1 =>
    exact ((HRW.out.below HB1.out).more HB1.out.size).alloc (Nat.le_refl _) _ |>.more (by simp)
  rintro W ⟨hR, hL⟩
  have HR := Lib.hid hR
  have HW := Lib.hid hL
  clear hR hL
  have HBW : Hid (Below w.heap.size w W) := Lib.hid (HB1.out.trans (HW.out.bel.mono HB1.out.size))
  generalize hta : w1.heap.size = ta at HW ⊢
  go_wp2_with (first
    | (at_builtin; refine wpList_apDs rfl (.tmp 41) (.tmp 42) rfl W.heap.size rfl (Own.empty _ _ _ _ (ddF (fun _ => Dz)) _ (by simp) (by simp)) rfl (HR.out.alloc (Nat.le_refl _) _) m (Nat.zero_add m) (by unfold maxLen; omega) (by omega) (by simp) ?_; intro A3 c3 w3 ho3 hg3 ha3
       have HL3 : Hid (Lay W w3 [dds A3 m c3 (appD (fun _ => Dz) 0 D)]) := (((Lay.nil W).new #[] 28 4 0 (ddF (fun _ => Dz)) _ rfl rfl (by unfold maxLen; omega) (fun j hj => absurd hj (by omega))).app 0 rfl ho3 hg3 ha3)
       rw [appD_zero] at HL3
       clear ho3 hg3 ha3)
    | (at_builtin; refine wpList_apDs rfl (.tmp 43) (.tmp 50) rfl W.heap.size rfl ((HL3.out.alloc _).own 0 _ rfl) rfl (new_deeds w3 [⟨2, p, x, dv⟩, ⟨4, p, [], 0⟩] _) (m + 2) rfl (by unfold maxLen; omega) (by omega) (HL3.out.alloc _).size ?_; intro A5 c5 w5 ho5 hg5 ha5
       have HL5 := Lib.hid ((HL3.out.alloc _).app 0 rfl ho5 hg5 ha5)
       clear ho5 hg5 ha5 HL3)
    | fail)
  refine (play_law (m + 2) c5 w5.heap.size A5 (appD D m (lsD [⟨2, p, x, dv⟩, ⟨4, p, [], 0⟩])) w5 (by omega) (Nat.le_refl _) HD.out (HL5.out.rd 0 rfl)).mono ?_
  rintro e w6 ⟨AC, cC, NA2, NC2, rfl, hb, hP, -⟩
  have HB56 : Hid (Below W.heap.size W w6) := Lib.hid (HL5.out.bel.trans (hb.mono HL5.out.size))
  have HW6 := Lib.hid (HW.out.keep HB56.out)
  have h1 := ansS_app D (lsD [⟨2, p, x, dv⟩, ⟨4, p, [], 0⟩]) m 0
  have h2 := ansS_app D (lsD [⟨2, p, x, dv⟩, ⟨4, p, [], 0⟩]) m 1
  obtain ⟨b, hb2⟩ : ∃ b, ansS T0 (appD D m (lsD [⟨2, p, x, dv⟩, ⟨4, p, [], 0⟩])) m = b := ⟨_, rfl⟩
  obtain ⟨c, hc2⟩ : ∃ c, ansS T0 (appD D m (lsD [⟨2, p, x, dv⟩, ⟨4, p, [], 0⟩])) (m + 1) = c := ⟨_, rfl⟩
  have HLAW2 : Hid (SetLaw x dv a b c) := Lib.hid (by
    have h3 := HLAW.out
    rw [← hb2, ← hc2, show m + 1 = m + 1 from rfl]
    have h1' : ansS T0 (appD D m (lsD [⟨2, p, x, dv⟩, ⟨4, p, [], 0⟩])) m = (doS (runS T0 D m) ⟨2, p, x, dv⟩).1 := h1
    have h2' : ansS T0 (appD D m (lsD [⟨2, p, x, dv⟩, ⟨4, p, [], 0⟩])) (m + 1) = (doS (doS (runS T0 D m) ⟨2, p, x, dv⟩).2 ⟨4, p, [], 0⟩).1 := h2
    rw [h1', h2']; exact h3)
  have HN2 := Lib.hid (hP.N (m + 1) (by omega))
  have HLE := Lib.hid hP.le
  obtain ⟨ad, rfl, -, m0, m1, m2, m3⟩ := hP.rec4 (show m < m + 2 by omega)
  have HP := Lib.hid hP
  rw [hb2] at m0 m1 m2 m3
  rw [hc2] at HN2
  have HN1W : Hid (Rd w6 w6.heap.size NA a.names.length (strF a.names)) := Lib.hid (by
    have h3 := HW6.out.bel
    have h4 := HN1.out.below h3
    exact h4.more h3.size)
  have HFIN : Hid (Below w.heap.size w w6) := Lib.hid (HBW.out.trans (HB56.out.mono HBW.out.size))
  have HC2 := Lib.hid hc2
  clear hP hb HL5 HR HW h1 h2 hb2 hc2 HLAW HB56 HBW HN1 HB1 HRW HD
  have e0 : (((m + 2 : Nat) : Int) != (m : Int) + 2) = false := by simp
  have hta6 := (HW6.out.at_ 0 rfl).2
  go_upto_region 9 with (fail)
  refine at_world (F := fun W' => Code.wp _ _ _ _ W') (fun W => Lay w1 W [blk w6.heap.size 31 4 (ofL (toldL (NA2 m) (NC2 m) b)), blk ta 31 4 (ofL (toldL NA NC a))] ∧ Below w6.heap.size w6 W) ⟨HW6.out.newB (toldL (NA2 m) (NC2 m) b) 31 4 rfl _ rfl, (Below.refl _ _).alloc (Nat.le_refl _) _⟩ ?_
  rintro W7 ⟨hL7, hB7⟩
  have HW7 := Lib.hid hL7
  have HB7 := Lib.hid hB7
  clear m0 m1 m2 m3 hL7
  obtain ⟨ad', e, -, k0, k1, k2, k3⟩ := (HP.out.to hB7).rec4 (show m + 1 < m + 2 by omega)
  injection e with e
  subst e
  rw [HC2.out] at k0 k1 k2 k3
  clear hB7
  generalize w6.heap.size = tb at HW7 ⊢
  go_upto_region 10 with (fail)
  refine at_world (F := fun W' => Code.wp _ _ _ _ W') (fun W => Lay w1 W [blk W7.heap.size 31 4 (ofL (toldL (NA2 (m + 1)) (NC2 (m + 1)) c)), blk tb 31 4 (ofL (toldL (NA2 m) (NC2 m) b)), blk ta 31 4 (ofL (toldL NA NC a))] ∧ Below W7.heap.size W7 W) ⟨HW7.out.newB (toldL (NA2 (m + 1)) (NC2 (m + 1)) c) 31 4 rfl _ rfl, (Below.refl _ _).alloc (Nat.le_refl _) _⟩ ?_
  rintro W8 ⟨hL8, hB8⟩
  have HW8 := Lib.hid hL8
  have HB8 := Lib.hid (HB7.out.trans (hB8.mono HB7.out.size))
  clear hL8 hB8 k0 k1 k2 k3 HW7 HB7 HW6
  have HFIN8 : Hid (Below w.heap.size w W8) := Lib.hid (HFIN.out.trans (HB8.out.mono HFIN.out.size))
  have HNA : Hid (Rd W8 W8.heap.size NA a.names.length (strF a.names)) := Lib.hid ((HN1W.out.below HB8.out).more HB8.out.size)
  have HNB : Hid (Rd W8 W8.heap.size (NA2 (m + 1)) c.names.length (strF c.names)) := Lib.hid ((HN2.out.below HB8.out).more HB8.out.size)
  clear HB8 HFIN HN1W HN2 HLE HP HC2
  generalize W7.heap.size = tc at HW8 ⊢
  have a0 := HW8.out.cellB 2 rfl 0 (by omega)
  have a1 := HW8.out.cellB 2 rfl 1 (by omega)
  have a2 := HW8.out.cellB 2 rfl 2 (by omega)
  have a3 := HW8.out.cellB 2 rfl 3 (by omega)
  have b0 := HW8.out.cellB 1 rfl 0 (by omega)
  have b2 := HW8.out.cellB 1 rfl 2 (by omega)
  have c0 := HW8.out.cellB 0 rfl 0 (by omega)
  have c1 := HW8.out.cellB 0 rfl 1 (by omega)
  have c2 := HW8.out.cellB 0 rfl 2 (by omega)
  have c3 := HW8.out.cellB 0 rfl 3 (by omega)
  simp only [toldL, ofL_0, ofL_1, ofL_2, ofL_3] at a0 a1 a2 a3 b0 b2 c0 c1 c2 c3
  obtain ⟨ac, ad1, av, an⟩ := a
  obtain ⟨bc, bd, bv, bn⟩ := b
  obtain ⟨cc, cd, cv, cn⟩ := c
  dsimp only at *
  by_cases hac : ac = 0
  · by_cases hbc : bc = 0
    · obtain ⟨h1, h2, h3, h4⟩ := HLAW2.out.new hac hbc
      dsimp only at h1 h2 h3 h4
      subst hac hbc h1 h2 h3
      obtain ⟨v0, v9⟩ := HVER.out
      try dsimp only at v0 v9
      clear HLAW2 HVER
      rcases h4 with h4 | h4
      · go_wp2
        go_ret
        exact ⟨rfl, HFIN8.out⟩
      · subst h4
        go_wp2
        go_ret
        exact ⟨rfl, HFIN8.out⟩
    · obtain ⟨h1, h2⟩ := HLAW2.out.old hac hbc
      injection h1 with h3 h4 h5 h6
      subst h3 h4 h5 h6
      dsimp only at h2
      have x2 : (bc != 0) = true := by simpa using hbc
      subst hac
      clear HLAW2 HVER
      by_cases h8 : bc = 8
      · obtain ⟨l1, l2, l3⟩ := h2.1 h8
        subst h8
        have x5 : (dv != cv) = true := by simpa using l3
        clear h2 l3
        go_wp2_with (go_at_call 11
                     refine (telling_any (NC2 (m + 1)) NC W8.heap.size (NA2 (m + 1)) NA ⟨0, _, _, _⟩ W8 (Nat.le_trans HLEN.out (by omega)) (Nat.le_refl _) HNB.out HNA.out).mono ?_
                     rintro e w9 ⟨rfl, hb9⟩
                     have HW9 := Lib.hid (HW8.out.keep hb9)
                     have HFIN9 := Lib.hid (HFIN8.out.trans (hb9.mono HFIN8.out.size))
                     clear hb9 a0 a1 a2 a3 b0 b2 c0 c1 c2 c3 HW8 HFIN8 HNA HNB
                     have a2 := HW9.out.cellB 2 rfl 2 (by omega)
                     have b0 := HW9.out.cellB 1 rfl 0 (by omega)
                     simp only [toldL, ofL_0, ofL_1, ofL_2, ofL_3] at a2 b0)
        go_ret
        exact ⟨rfl, HFIN9.out⟩
      · have x6 : (bc == 8) = false := by simpa using h8
        have h9 : ¬ (x.length ≤ 20 ∧ 0 ≤ dv ∧ dv ≠ cv) := fun h => h8 (h2.2 h)
        clear h2
        by_cases l1 : x.length ≤ 20
        · by_cases l2 : 0 ≤ dv
          · obtain rfl : dv = cv := Classical.byContradiction fun h => h9 ⟨l1, l2, h⟩
            clear h9
            go_wp2_with (go_at_call 11
                         refine (telling_any (NC2 (m + 1)) NC W8.heap.size (NA2 (m + 1)) NA ⟨0, _, _, _⟩ W8 (Nat.le_trans HLEN.out (by omega)) (Nat.le_refl _) HNB.out HNA.out).mono ?_
                         rintro e w9 ⟨rfl, hb9⟩
                         have HW9 := Lib.hid (HW8.out.keep hb9)
                         have HFIN9 := Lib.hid (HFIN8.out.trans (hb9.mono HFIN8.out.size))
                         clear hb9 a0 a1 a2 a3 b0 b2 c0 c1 c2 c3 HW8 HFIN8 HNA HNB
                         have a2 := HW9.out.cellB 2 rfl 2 (by omega)
                         have b0 := HW9.out.cellB 1 rfl 0 (by omega)
                         simp only [toldL, ofL_0, ofL_1, ofL_2, ofL_3] at a2 b0)
            go_ret
            exact ⟨rfl, HFIN9.out⟩
          · clear h9
            go_wp2_with (go_at_call 11
                         refine (telling_any (NC2 (m + 1)) NC W8.heap.size (NA2 (m + 1)) NA ⟨0, _, _, _⟩ W8 (Nat.le_trans HLEN.out (by omega)) (Nat.le_refl _) HNB.out HNA.out).mono ?_
                         rintro e w9 ⟨rfl, hb9⟩
                         have HW9 := Lib.hid (HW8.out.keep hb9)
                         have HFIN9 := Lib.hid (HFIN8.out.trans (hb9.mono HFIN8.out.size))
                         clear hb9 a0 a1 a2 a3 b0 b2 c0 c1 c2 c3 HW8 HFIN8 HNA HNB
                         have a2 := HW9.out.cellB 2 rfl 2 (by omega)
                         have b0 := HW9.out.cellB 1 rfl 0 (by omega)
                         simp only [toldL, ofL_0, ofL_1, ofL_2, ofL_3] at a2 b0)
            go_ret
            exact ⟨rfl, HFIN9.out⟩
        · clear h9
          go_wp2_with (go_at_call 11
                       refine (telling_any (NC2 (m + 1)) NC W8.heap.size (NA2 (m + 1)) NA ⟨0, _, _, _⟩ W8 (Nat.le_trans HLEN.out (by omega)) (Nat.le_refl _) HNB.out HNA.out).mono ?_
                       rintro e w9 ⟨rfl, hb9⟩
                       have HW9 := Lib.hid (HW8.out.keep hb9)
                       have HFIN9 := Lib.hid (HFIN8.out.trans (hb9.mono HFIN8.out.size))
                       clear hb9 a0 a1 a2 a3 b0 b2 c0 c1 c2 c3 HW8 HFIN8 HNA HNB
                       have a2 := HW9.out.cellB 2 rfl 2 (by omega)
                       have b0 := HW9.out.cellB 1 rfl 0 (by omega)
                       simp only [toldL, ofL_0, ofL_1, ofL_2, ofL_3] at a2 b0)
          go_ret
          exact ⟨rfl, HFIN9.out⟩
  · obtain ⟨h1, h2⟩ := HLAW2.out.no hac
    dsimp only at h1 h2
    subst h2
    have x1 : (cc != 0) = true := by simpa using hac
    have x2 : (bc != 0) = true := by simpa using h1
    have x3 : (cc == cc) = true := by simp
    clear HLAW2 hac h1
    go_wp2
    go_ret
    exact ⟨rfl, HFIN8.out⟩
end Go.Proofs.YtfkfljiinnlilaaDoor
