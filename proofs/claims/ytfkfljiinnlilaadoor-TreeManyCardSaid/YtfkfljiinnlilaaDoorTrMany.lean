/- The walk of tree.Many. -/
import Derived.Test.YtfkfljiinnlilaaDoorTrGrown
set_option linter.unusedVariables false
set_option linter.unusedSimpArgs false
namespace Go.Proofs.YtfkfljiinnlilaaDoor
open Go.RowKit

/-- How many were told, and whether all were told OK. -/
structure ManyOk (q : Nat) (a : Nat → Ans) (k : Nat) (is : Bool) : Prop where
  le : k ≤ q
  yes : is = true → k = q ∧ ∀ i, i < k → (a i).code = 0
  no : is = false → 0 < k ∧ (a (k - 1)).code ≠ 0 ∧ ∀ i, i < k - 1 → (a i).code = 0
theorem many_bad (m q c1 c2 : Nat) (A1 A2 : Option Addr) (w : World) (hm : m * 48 ≤ 140737488351232) (hq : q * 48 ≤ 140737488351232) (hb : 60 < m + q) :
    Calls Tryd.prog 12 #[.slice A1 m c1, .slice A2 q c2] w fun e w' => e = .returned (.tuple #[.slice none 0 0, .bool false, .int .i64 1]) ∧ w' = w := by
  go_enter Tryd.func12, Tryd.ntmps12
  go_wp2
  refine bodyPost_ret (v := .tuple #[.slice none 0 0, .bool false, .int .i64 1]) (by simp [results, Tryd.results12, go_sem]) rfl ?_
  exact ⟨rfl, rfl⟩
set_option maxRecDepth 100000 in
set_option maxHeartbeats 3200000 in
theorem many_good (m q c1 c2 B : Nat) (A1 A2 : Option Addr) (D E : Nat → Deed) (w : World) (hm : m + q ≤ 60) (hB : B ≤ w.heap.size) (hD : ∀ i, i < m → DeedL (D i)) (hE : ∀ i, i < q → DeedL (E i)) (hr : Rd w B A1 (m * 4) (ddF D)) (hr2 : Rd w B A2 (q * 4) (ddF E)) :
    Calls Tryd.prog 12 #[.slice A1 m c1, .slice A2 q c2] w (Gives fun v w' => ∃ AC cC G VR k is, v = .tuple #[.slice AC k cC, .bool is, .int .i64 0] ∧ Lay w w' (rowTd AC k cC G :: VR) ∧ (∀ t, t < k → TdI VR G t (ansS T0 (appD D m E) (m + t))) ∧ ManyOk q (fun t => ansS T0 (appD D m E) (m + t)) k is) := by
  have HR := Lib.hid hr; clear hr
  have HR2 := Lib.hid hr2; clear hr2
  have HD : Hid (∀ i, i < m + q → DeedL (appD D m E i)) := Lib.hid fun i hi => by
    by_cases h : i < m
    · rw [appD_old _ _ _ h]; exact hD i h
    · obtain ⟨k, rfl⟩ : ∃ k, i = m + k := ⟨i - m, by omega⟩
      rw [appD_new]; exact hE k (by omega)
  clear hD hE
  obtain ⟨iT, hiT, hz0, hz1, hz2⟩ := info_parts infoTold
  go_enter Tryd.func12, Tryd.ntmps12
  go_wp2_with (go_at_call 13
               refine (new_any [] [] w w (Lay.nil w).toM).mono ?_
               rintro e w1 ⟨tb, bm, rfl, h1⟩
               have H1 := Lib.hid h1
               clear h1)
  go_loopw [23] (fun i wr => ∃ j : Nat, j ≤ m ∧ i = .int .i64 (j : Nat) ∧ Hid (LayM w wr [rowT tb bm] [⟨bm, TrE (runS T0 (appD D m E) j)⟩])) (fun i _ => m - (intOf i).toNat)
  case atStart => exact ⟨0, by omega, rfl, H1⟩
  case round =>
    clear H1
    obtain ⟨j, hj, rfl, HQ⟩ := hrel
    by_cases hlt : j < m
    · obtain ⟨ad, rfl, hbl, m0, m1, m2, m3⟩ := (HR.out.below (HQ.out.lay.bel.mono hB)).recD hlt
      clear hbl
      rw [← appD_old D m E hlt] at m0 m1 m2 m3
      go_wp2_with (go_at_call 14
                   refine (do_any tb bm _ [] w _ (runS T0 (appD D m E) j) (appD D m E j) (HD.out j (by omega)) ((run_ok (appD D m E) j fun i hi => HD.out i (by omega)).ok (by omega)) (HQ.out.alloc _)).mono ?_
                   rintro e w3 ⟨v, rfl, AN, cN, rfl, h3⟩
                   have H3 : Hid (LayM w w3 [rowT tb bm] [⟨bm, TrE (runS T0 (appD D m E) (j + 1))⟩]) := Lib.hid h3.tl
                   clear h3 m0 m1 m2 m3 HQ
                   unfold toldV)
      go_roundw
      case rel => exact ⟨j + 1, by omega, by go_num, H3⟩
      case measure => first | (simp [intOf]; done) | (simp [intOf]; omega)
    · obtain rfl : m = j := by omega
      go_wp2
      have HQ0 : Hid (LayM w wr (rowT tb bm :: rowTd none 0 0 (fun _ => undef) :: []) [⟨bm, TrE (runS T0 (appD D m E) (m + 0))⟩]) := Lib.hid ((HQ.out.lnil 31 4 (fun _ => undef)).step (HQ.out.lnil 31 4 (fun _ => undef)).lay.swap (.refl _))
      clear HQ
      go_loopw [10, 33] (fun lv i wr => ∃ (j : Nat) (AC : Option Addr) (cC : Nat) (G : Nat → Value) (VR : List LRow), j ≤ q ∧ i = .int .i64 (j : Nat) ∧ lv = .slice AC j cC ∧ Hid (LayM w wr (rowT tb bm :: rowTd AC j cC G :: VR) [⟨bm, TrE (runS T0 (appD D m E) (m + j))⟩]) ∧ Hid (∀ t, t < j → TdI VR G t (ansS T0 (appD D m E) (m + t))) ∧ Hid (∀ t, t < j → (ansS T0 (appD D m E) (m + t)).code = 0)) (fun _ i _ => q - (intOf i).toNat)
      case atStart => exact ⟨0, none, 0, _, [], by omega, rfl, rfl, HQ0, Lib.hid fun t ht => absurd ht (by omega), Lib.hid fun t ht => absurd ht (by omega)⟩
      case round =>
        clear HQ0
        obtain ⟨j, AC, cC, G, VR, hj, rfl, rfl, HQ, HT, HC⟩ := hrel
        by_cases hlt : j < q
        · obtain ⟨ad, rfl, hbl, m0, m1, m2, m3⟩ := (HR2.out.below (HQ.out.lay.bel.mono hB)).recD hlt
          clear hbl
          rw [← appD_new D m E j] at m0 m1 m2 m3
          obtain ⟨a, ha⟩ : ∃ a, ansS T0 (appD D m E) (m + j) = a := ⟨_, rfl⟩
          have HA := Lib.hid ha
          clear ha
          by_cases hc0 : a.code = 0
          · have hc : (a.code != 0) = false := by simpa using hc0
            have HC0 := Lib.hid hc0
            clear hc0
            go_wp2_with (first
              | (go_at_call 14
                 refine (do_any tb bm _ [] w _ (runS T0 (appD D m E) (m + j)) (appD D m E (m + j)) (HD.out (m + j) (by omega)) ((run_ok (appD D m E) (m + j) fun i hi => HD.out i (by omega)).ok (by omega)) (HQ.out.alloc _)).mono ?_
                 rintro e w3 ⟨v, rfl, AN, cN, rfl, h3⟩
                 have h4 : doS (runS T0 (appD D m E) (m + j)) (appD D m E (m + j)) = (a, runS T0 (appD D m E) (m + (j + 1))) := by rw [← HA.out]; rfl
                 rw [h4] at h3 ⊢
                 have H3 := Lib.hid (h3.newB (toldL AN cN a) 31 4 rfl _ rfl)
                 have HSZ : Hid (w.heap.size ≤ ((w3.alloc (.cells (toldL AN cN a).toArray 31)).alloc (.cells (toldL AN cN a).toArray 31)).heap.size) := Lib.hid (by have := h3.lay.size; simp; omega)
                 have HO1 : Hid (∀ k, k < 1 * 4 → (ofL (toldL AN cN a) k).oneCell' = true) := Lib.hid (fun k hk => by
                   rcases (by omega : k = 0 ∨ k = 1 ∨ k = 2 ∨ k = 3) with rfl | rfl | rfl | rfl <;> rfl)
                 clear h3 h4 m0 m1 m2 m3 HQ
                 unfold toldV)
              | (at_builtin
                 refine wpList_ap rfl (.tmp 40) (.tmp 42) _ rfl 31 iT _ 4 56 Tryd.underlying23 hiT hz0 hz1 hz2 rfl (by omega) w.heap.size (n := j) rfl ((H3.out.lay.alloc _).own 3 _ rfl) (B := w3.heap.size + 1 + 1) (m := 1) (g := ofL (toldL AN cN a)) rfl ?hr HO1.out (catG (j * 4) G (toldL AN cN a)) (fun k hk => by unfold catG; rw [if_pos hk]) (fun k hk => by unfold catG; rw [if_neg (by omega), Nat.add_sub_cancel_left]) (j + 1) rfl (by unfold maxLen; omega) (by omega) HSZ.out ?_
                 case hr =>
                   refine cell_new (w3.alloc (.cells (toldL AN cN a).toArray 31)) _ _ _ (w3.heap.size + 1) (by simp) (fun k hk => ?_)
                   rcases (by omega : k = 0 ∨ k = 1 ∨ k = 2 ∨ k = 3) with rfl | rfl | rfl | rfl <;> rfl
                 intro A2 k2 w4 ho hg hh
                 have H4 := Lib.hid ((H3.out.alloc _).app 3 rfl ho hg hh)
                 clear ho hg hh HSZ HO1 H3
                 have d0 := H4.out.lay.cellB 0 rfl 0 (by omega)
                 simp only [toldL, ofL_0] at d0)
              | fail)
            go_roundw
            case rel => exact ⟨j + 1, A2, k2, catG (j * 4) G (toldL AN cN a), rowS AN cN a.names :: VR, by omega, by go_num, rfl, Lib.hid (H4.out.tl.step ((H4.out.tl.lay.mv 2 (by simp))) (.refl _)), Lib.hid fun t ht => by
                rcases Nat.lt_succ_iff_lt_or_eq.1 ht with h1 | rfl
                · exact ((HT.out t h1).sub (RowsIn.cons _ _)).congr fun k hk => by unfold catG; rw [if_pos (by omega)]
                · rw [HA.out]
                  exact ⟨0, AN, cN, rfl, fun k hk => by unfold catG; rw [if_neg (by omega), Nat.add_sub_cancel_left]⟩, Lib.hid fun t ht => by
                rcases Nat.lt_succ_iff_lt_or_eq.1 ht with h1 | rfl
                · exact HC.out t h1
                · rw [HA.out]; exact HC0.out⟩
            case measure => first | (simp [intOf]; done) | (simp [intOf]; omega)
          · have hc : (a.code != 0) = true := by simpa using hc0
            have HC0 := Lib.hid hc0
            clear hc0
            go_wp2_with (first
              | (go_at_call 14
                 refine (do_any tb bm _ [] w _ (runS T0 (appD D m E) (m + j)) (appD D m E (m + j)) (HD.out (m + j) (by omega)) ((run_ok (appD D m E) (m + j) fun i hi => HD.out i (by omega)).ok (by omega)) (HQ.out.alloc _)).mono ?_
                 rintro e w3 ⟨v, rfl, AN, cN, rfl, h3⟩
                 have h4 : doS (runS T0 (appD D m E) (m + j)) (appD D m E (m + j)) = (a, runS T0 (appD D m E) (m + (j + 1))) := by rw [← HA.out]; rfl
                 rw [h4] at h3 ⊢
                 have H3 := Lib.hid (h3.newB (toldL AN cN a) 31 4 rfl _ rfl)
                 have HSZ : Hid (w.heap.size ≤ ((w3.alloc (.cells (toldL AN cN a).toArray 31)).alloc (.cells (toldL AN cN a).toArray 31)).heap.size) := Lib.hid (by have := h3.lay.size; simp; omega)
                 have HO1 : Hid (∀ k, k < 1 * 4 → (ofL (toldL AN cN a) k).oneCell' = true) := Lib.hid (fun k hk => by
                   rcases (by omega : k = 0 ∨ k = 1 ∨ k = 2 ∨ k = 3) with rfl | rfl | rfl | rfl <;> rfl)
                 clear h3 h4 m0 m1 m2 m3 HQ
                 unfold toldV)
              | (at_builtin
                 refine wpList_ap rfl (.tmp 40) (.tmp 42) _ rfl 31 iT _ 4 56 Tryd.underlying23 hiT hz0 hz1 hz2 rfl (by omega) w.heap.size (n := j) rfl ((H3.out.lay.alloc _).own 3 _ rfl) (B := w3.heap.size + 1 + 1) (m := 1) (g := ofL (toldL AN cN a)) rfl ?hr HO1.out (catG (j * 4) G (toldL AN cN a)) (fun k hk => by unfold catG; rw [if_pos hk]) (fun k hk => by unfold catG; rw [if_neg (by omega), Nat.add_sub_cancel_left]) (j + 1) rfl (by unfold maxLen; omega) (by omega) HSZ.out ?_
                 case hr =>
                   refine cell_new (w3.alloc (.cells (toldL AN cN a).toArray 31)) _ _ _ (w3.heap.size + 1) (by simp) (fun k hk => ?_)
                   rcases (by omega : k = 0 ∨ k = 1 ∨ k = 2 ∨ k = 3) with rfl | rfl | rfl | rfl <;> rfl
                 intro A2 k2 w4 ho hg hh
                 have H4 := Lib.hid ((H3.out.alloc _).app 3 rfl ho hg hh)
                 clear ho hg hh HSZ HO1 H3
                 have d0 := H4.out.lay.cellB 0 rfl 0 (by omega)
                 simp only [toldL, ofL_0] at d0)
              | fail)
            refine bodyPost_ret (v := .tuple #[.slice A2 (j + 1) k2, .bool false, .int .i64 0]) (by simp [results, Tryd.results12, go_sem]) rfl ?_
            exact ⟨_, rfl, A2, k2, catG (j * 4) G (toldL AN cN a), rowS AN cN a.names :: VR, j + 1, .inl ⟨rfl, (H4.out.tl.lay.mv 2 (by simp)).tail, fun t ht => by
                rcases Nat.lt_succ_iff_lt_or_eq.1 ht with h1 | rfl
                · exact ((HT.out t h1).sub (RowsIn.cons _ _)).congr fun k hk => by unfold catG; rw [if_pos (by omega)]
                · rw [HA.out]
                  exact ⟨0, AN, cN, rfl, fun k hk => by unfold catG; rw [if_neg (by omega), Nat.add_sub_cancel_left]⟩,
              ⟨by omega, fun h => (nomatch h), fun _ => ⟨by omega, by rw [Nat.add_sub_cancel]; show (ansS T0 (appD D m E) (m + j)).code ≠ 0; rw [HA.out]; exact HC0.out, fun i hi => HC.out i (by omega)⟩⟩⟩⟩
        · obtain rfl : q = j := by omega
          go_wp2
          refine bodyPost_ret (v := .tuple #[.slice AC q cC, .bool true, .int .i64 0]) (by simp [results, Tryd.results12, go_sem]) rfl ?_
          exact ⟨_, rfl, AC, cC, G, VR, q, true, rfl, HQ.out.lay.tail, HT.out, ⟨Nat.le_refl _, fun _ => ⟨rfl, HC.out⟩, fun h => by cases h⟩⟩
end Go.Proofs.YtfkfljiinnlilaaDoor
