/- The walk of tree.Play. -/
import Derived.Test.YtfdgjbanajodfaaDoorTrNew
set_option linter.unusedVariables false
set_option linter.unusedSimpArgs false
namespace Go.Proofs.YtfdgjbanajodfaaDoor
open Go.RowKit

abbrev ddF (D : Nat → Deed) (j : Nat) : Value := ofL (cellsD (D (j / 4))) (j % 4)
abbrev rowTd (A : Option Addr) (n c : Nat) (G : Nat → Value) : LRow := ⟨A, 35, 4, n, c, G⟩
/-- What was told at place t: its names stand among the rows. -/
def TdI (VR : List LRow) (G : Nat → Value) (t : Nat) (a : Ans) : Prop := ∃ (k : Nat) (A : Option Addr) (c : Nat), VR[k]? = some (rowS A c a.names) ∧ ∀ j, j < 4 → G (t * 4 + j) = ofL (toldL A c a) j
theorem TdI.sub {VR VR' : List LRow} {G : Nat → Value} {t : Nat} {a : Ans} (h : TdI VR G t a) (hs : RowsIn VR VR') : TdI VR' G t a := by
  obtain ⟨k, A, c, h1, h2⟩ := h
  obtain ⟨k', h3⟩ := hs k _ h1
  exact ⟨k', A, c, h3, h2⟩
theorem TdI.congr {VR : List LRow} {G G' : Nat → Value} {t : Nat} {a : Ans} (h : TdI VR G t a) (hg : ∀ j, j < 4 → G' (t * 4 + j) = G (t * 4 + j)) : TdI VR G' t a := by
  obtain ⟨k, A, c, h1, h2⟩ := h
  exact ⟨k, A, c, h1, fun j hj => (hg j hj).trans (h2 j hj)⟩
def catG (n : Nat) (G : Nat → Value) (l : List Value) (j : Nat) : Value := if j < n then G j else ofL l (j - n)
theorem infoTold : (Tryd.prog.info? 35).map (fun i => (i.zero, i.size, i.bytes)) = some (some (.agg #[.int .i64 0, .string ⟨#[]⟩, .int .i64 0, .slice none 0 0]), 4, 56) := by kernel_rfl
theorem Rd.recD {w : World} {B n : Nat} {A : Option Addr} {D : Nat → Deed} (h : Rd w B A (n * 4) (ddF D)) {j : Nat} (hj : j < n) :
    ∃ ad, A = some ad ∧ ad.block < B ∧ w.cell? (ad.add (j * 4)) = some (.int .i64 (D j).kind) ∧ w.cell? ⟨(ad.add (j * 4)).block, (ad.add (j * 4)).off + 1, none⟩ = some (.string (bs (D j).path)) ∧
      w.cell? ⟨(ad.add (j * 4)).block, (ad.add (j * 4)).off + 2, none⟩ = some (.string (bs (D j).data)) ∧ w.cell? ⟨(ad.add (j * 4)).block, (ad.add (j * 4)).off + 3, none⟩ = some (.int .i64 (D j).version) := by
  obtain ⟨ad, e, hb, hc⟩ := h (by omega)
  have h0 := hc (j * 4) (by omega)
  have h1 := hc (j * 4 + 1) (by omega)
  have h2 := hc (j * 4 + 2) (by omega)
  have h3 := hc (j * 4 + 3) (by omega)
  rw [← addr_add] at h1 h2 h3
  have e0 : ∀ k, k < 4 → ddF D (j * 4 + k) = ofL (cellsD (D j)) k := fun k hk => by
    unfold ddF
    rw [show (j * 4 + k) / 4 = j by omega, show (j * 4 + k) % 4 = k by omega]
  have e00 := e0 0 (by omega)
  rw [Nat.add_zero] at e00
  rw [e00] at h0
  rw [e0 1 (by omega)] at h1
  rw [e0 2 (by omega)] at h2
  rw [e0 3 (by omega)] at h3
  exact ⟨ad, e, hb, h0, h1, h2, h3⟩
theorem play_bad (m cap : Nat) (A : Option Addr) (w : World) (hm : m ≤ maxLen) (hb : 60 < m) :
    Calls Tryd.prog 11 #[.slice A m cap] w fun e w' => e = .returned (.tuple #[.slice none 0 0, .int .i64 1]) ∧ w' = w := by
  unfold maxLen at hm
  go_enter Tryd.func11, Tryd.ntmps11
  go_wp2
  refine bodyPost_ret (v := .tuple #[.slice none 0 0, .int .i64 1]) (by simp [results, Tryd.results11, go_sem]) rfl ?_
  exact ⟨rfl, rfl⟩
set_option maxRecDepth 100000 in
set_option maxHeartbeats 1600000 in
theorem play_good (m cap B : Nat) (A : Option Addr) (D : Nat → Deed) (w : World) (hm : m ≤ 60) (hB : B ≤ w.heap.size) (hD : ∀ i, i < m → DeedL (D i)) (hr : Rd w B A (m * 4) (ddF D)) :
    Calls Tryd.prog 11 #[.slice A m cap] w (Gives fun v w' => ∃ AC cC G VR, v = .tuple #[.slice AC m cC, .int .i64 0] ∧ Lay w w' (rowTd AC m cC G :: VR) ∧ ∀ t, t < m → TdI VR G t (ansS T0 D t)) := by
  have HR := Lib.hid hr; clear hr
  have HD := Lib.hid hD; clear hD
  obtain ⟨iT, hiT, hz0, hz1, hz2⟩ := info_parts infoTold
  go_enter Tryd.func11, Tryd.ntmps11
  go_wp2_with (go_at_call 19
               refine (new_any [] [] w w (Lay.nil w).toM).mono ?_
               rintro e w1 ⟨tb, bm, rfl, h1⟩
               have H1 := Lib.hid (((h1.lnil 35 4 (fun _ => undef)).step ((h1.lnil 35 4 (fun _ => undef)).lay.swap) (.refl _)))
               clear h1)
  go_loopw [5, 14] (fun lv i wr => ∃ (j : Nat) (AC : Option Addr) (cC : Nat) (G : Nat → Value) (VR : List LRow), j ≤ m ∧ i = .int .i64 (j : Nat) ∧ lv = .slice AC j cC ∧ Hid (LayM w wr (rowT tb bm :: rowTd AC j cC G :: VR) [⟨bm, TrE (runS T0 D j)⟩]) ∧ Hid (∀ t, t < j → TdI VR G t (ansS T0 D t))) (fun _ i _ => m - (intOf i).toNat)
  case atStart => exact ⟨0, none, 0, _, [], by omega, rfl, rfl, H1, Lib.hid fun t ht => absurd ht (by omega)⟩
  case round =>
    clear H1
    obtain ⟨j, AC, cC, G, VR, hj, rfl, rfl, HQ, HT⟩ := hrel
    by_cases hlt : j < m
    · obtain ⟨ad, rfl, hbl, m0, m1, m2, m3⟩ := (HR.out.below (HQ.out.lay.bel.mono hB)).recD hlt
      clear hbl
      go_wp2_with (first
        | (go_at_call 20
           refine (do_any tb bm _ [] w _ (runS T0 D j) (D j) (HD.out j hlt) ((run_ok D j fun i hi => HD.out i (by omega)).ok (by omega)) (HQ.out.alloc _)).mono ?_
           rintro e w3 ⟨v, rfl, AN, cN, rfl, h3⟩
           have H3 : Hid (LayM w w3 (rowS AN cN (ansS T0 D j).names :: rowT tb bm :: rowTd AC j cC G :: VR) [⟨bm, TrE (runS T0 D (j + 1))⟩]) := Lib.hid h3
           have h3 : doS (runS T0 D j) (D j) = (ansS T0 D j, runS T0 D (j + 1)) := rfl
           rw [h3]
           clear h3 m0 m1 m2 m3
           obtain ⟨a, ha⟩ : ∃ a, ansS T0 D j = a := ⟨_, rfl⟩
           rw [ha] at H3 ⊢
           have HA := Lib.hid ha
           have HSZ : Hid (w.heap.size ≤ (w3.alloc (.cells (toldL AN cN a).toArray 35)).heap.size) := Lib.hid (by have := H3.out.lay.size; simp; omega)
           have HO1 : Hid (∀ k, k < 1 * 4 → (ofL (toldL AN cN a) k).oneCell' = true) := Lib.hid (fun k hk => by
             rcases (by omega : k = 0 ∨ k = 1 ∨ k = 2 ∨ k = 3) with rfl | rfl | rfl | rfl <;> rfl)
           clear ha HQ
           unfold toldV)
        | (at_builtin
           refine wpList_ap rfl (.tmp 18) (.tmp 22) _ rfl 35 iT _ 4 56 Tryd.underlying23 hiT hz0 hz1 hz2 rfl (by omega) w.heap.size (n := j) rfl ((H3.out.lay.alloc _).own 2 _ rfl) (B := w3.heap.size + 1) (m := 1) (g := ofL (toldL AN cN a)) rfl ?hr HO1.out (catG (j * 4) G (toldL AN cN a)) (fun k hk => by unfold catG; rw [if_pos hk]) (fun k hk => by unfold catG; rw [if_neg (by omega), Nat.add_sub_cancel_left]) (j + 1) rfl (by unfold maxLen; omega) (by omega) HSZ.out ?_
           case hr =>
             refine cell_new w3 _ _ _ w3.heap.size rfl (fun k hk => ?_)
             rcases (by omega : k = 0 ∨ k = 1 ∨ k = 2 ∨ k = 3) with rfl | rfl | rfl | rfl <;> rfl
           intro A2 c2 w4 ho hg hh
           have H4 := Lib.hid ((H3.out.alloc _).app 2 rfl ho hg hh)
           clear ho hg hh HSZ HO1)
        | fail)
      go_roundw
      case rel => exact ⟨j + 1, A2, c2, catG (j * 4) G (toldL AN cN a), rowS AN cN a.names :: VR, by omega, by go_num, rfl, Lib.hid (H4.out.step ((H4.out.lay.mv 2 (by simp))) (.refl _)), Lib.hid fun t ht => by
          rcases Nat.lt_succ_iff_lt_or_eq.1 ht with h1 | rfl
          · exact ((HT.out t h1).sub (RowsIn.cons _ _)).congr fun k hk => by unfold catG; rw [if_pos (by omega)]
          · rw [HA.out]
            exact ⟨0, AN, cN, rfl, fun k hk => by unfold catG; rw [if_neg (by omega), Nat.add_sub_cancel_left]⟩⟩
      case measure => first | (simp [intOf]; done) | (simp [intOf]; omega)
    · obtain rfl : m = j := by omega
      go_wp2
      refine bodyPost_ret (v := .tuple #[.slice AC m cC, .int .i64 0]) (by simp [results, Tryd.results11, go_sem]) rfl ?_
      exact ⟨_, rfl, AC, cC, G, VR, rfl, HQ.out.lay.tail, HT.out⟩
end Go.Proofs.YtfdgjbanajodfaaDoor
