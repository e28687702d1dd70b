/- The law CausalFront, walked. -/
import Derived.Test.YtiljnddjecbmfaaCaLaw
set_option linter.unusedVariables false
set_option linter.unusedSimpArgs false
namespace Go.Proofs.Ytiljnddjecbmfaa
open Go.RowKit Go.Maps Go.MapKept

set_option maxHeartbeats 800000 in
theorem ints_eq (n cap B : Nat) (A : Option Addr) (f : Nat → Int) (cap2 B2 : Nat) (A2 : Option Addr) (g : Nat → Int) (w : World) (hn : n ≤ maxLen) (hr : Rd w B A n (fun j => .int .i64 (f j))) (hr2 : Rd w B2 A2 n (fun j => .int .i64 (g j))) (he : ∀ i, i < n → f i = g i) :
    Calls Try.prog 12 #[.slice A n cap, .slice A2 n cap2] w fun e w' => e = .returned (.bool true) ∧ Sim w w' := by
  unfold maxLen at hn
  have HR := Lib.hid hr; clear hr
  have HR2 := Lib.hid hr2; clear hr2
  have HE := Lib.hid he; clear he
  go_enter Try.func12, Try.ntmps12
  go_wp2
  go_loopw [5] (fun x wr => ∃ j : Nat, j ≤ n ∧ x = .int .i64 j ∧ Hid (Sim w wr)) (fun x _ => n - (intOf x).toNat)
  case atStart => exact ⟨0, by omega, rfl, rfl, rfl, rfl, rfl⟩
  case round =>
    obtain ⟨j, hj, rfl, HS⟩ := hrel
    by_cases hlt : j < n
    · obtain ⟨ad, rfl, _, hc⟩ := HR.out (by omega)
      obtain ⟨ad2, rfl, _, hc2⟩ := HR2.out (by omega)
      have h1 : wr.cell? (ad.add j) = some (.int .i64 (f j)) := by unfold World.cell?; rw [HS.out.1]; exact hc j hlt
      have h2 : wr.cell? (ad2.add j) = some (.int .i64 (f j)) := by unfold World.cell?; rw [HS.out.1, HE.out j hlt]; exact hc2 j hlt
      clear hc hc2
      go_wp2
      refine wp_text_all (by kernel_rfl) (by kernel_rfl) (by kernel_rfl) (by repeat' (first | (with_reducible apply tame_then) | (with_reducible apply tame_block) | (with_reducible apply tame_scope) | exact tame_gives | exact tame_body (fun _ _ h => ⟨_, h.1⟩))) ?_
      go_wp2
      refine headed ?_
      go_wp2
      go_roundw
      case rel => exact ⟨j + 1, by omega, by go_num, HS.out⟩
      case measure => simp [intOf]; omega
    · obtain rfl : j = n := by omega
      go_wp2
      go_ret
      exact ⟨rfl, HS.out⟩
set_option maxRecDepth 100000 in
set_option maxHeartbeats 3200000 in
theorem causalFront_good (n m cap k : Nat) (A : Option Addr) (M : Mv) (w : World) (hmc : m ≤ cap) (hcm : cap ≤ maxLen) (hr : Rd w w.heap.size A (m * 4) (mvF M)) (h1 : 1 ≤ n) (h6 : n ≤ 6) (hm6 : m ≤ 60) (hk : k < 256) :
    Calls Try.prog 5 #[.int .i64 n, .slice A m cap, .int .u8 k] w fun e w' => e = .returned (.bool true) ∧ Below w.heap.size w w' := by
  have HR := Lib.hid hr; clear hr
  have hcm' : cap ≤ 9223372036854775807 := by unfold maxLen at hcm; omega
  clear hcm
  go_enter Try.func5, Try.ntmps5
  go_wp2_with fail
  refine (ca_good n w m cap _ A M h1 h6 hm6 (Nat.le_refl _) HR.out).mono ?_
  rintro e w1 ⟨v, rfl, g, cl, gt, gc, cc, gm, cm, AL, bc, f, AC, cC, rfl, br, hL⟩
  have HL := Lib.hid ((LayQ.newB hL [.slice AC m cC, .slice (some ⟨gt, 0, none⟩) n n] 26 2 rfl _ rfl).rot5)
  clear hL
  obtain ⟨i, hi⟩ : ∃ i, i = k % (m + 1) := ⟨_, rfl⟩
  have him : i ≤ m := by have := Nat.mod_lt k (show 0 < m + 1 by omega); omega
  have e1 : (k : Int) % ((m : Int) + 1) = (i : Nat) := by rw [hi, Int.natCast_emod]; rfl
  clear hi
  go_wp2_with fail
  refine at_layQ (F := fun W' => Calls _ _ _ W' _) HL.out ?_
  intro W hW
  have HW := Lib.hid hW
  clear hW HL
  generalize w1.heap.size = q1 at HW ⊢
  refine (ca_good n W i cap w.heap.size A M h1 h6 (by omega) HW.out.size ((HR.out.below HW.out.lay.bel).less (by omega))).mono ?_
  rintro e w3 ⟨v, rfl, g', cl', gt', gc', cc', gm', cm', AL', bc', f', AC', cC', rfl, br', hL⟩
  have HA := Lib.hid ((HW.out.keep hL.lay.bel).alloc (.cells #[.slice AC' i cC', .slice (some ⟨gt', 0, none⟩) n n] 26))
  have HB := Lib.hid (LayQ.newB hL [.slice AC' i cC', .slice (some ⟨gt', 0, none⟩) n n] 26 2 rfl _ rfl).rot5
  clear hL HW
  have HPF : Hid (∀ p, (caE n M i).told p <+: (caE n M m).told p) := Lib.hid fun p => by
    have := told_le n M p i (m - i)
    rwa [show i + (m - i) = m by omega] at this
  have hq1 := (HA.out.lay.at_ 5 rfl).2
  generalize hss : caE n M m = s1 at *
  generalize hst : caE n M i = s2 at *
  have HBP : Hid (playedB n m = true) := Lib.hid (playedB_iff.2 ⟨by omega, by omega, by omega⟩)
  have HBL : Hid (Below w.heap.size w (w3.alloc (.cells #[.slice AC' i cC', .slice (some ⟨gt', 0, none⟩) n n] 26))) := Lib.hid HA.out.lay.bel
  have c0 := HA.out.lay.cellB 5 rfl 0 (by omega)
  have c1 := HA.out.lay.cellB 5 rfl 1 (by omega)
  simp only [ofL_0, ofL_1] at c0 c1
  go_wp2_with fail
  generalize hW4 : w3.alloc (.cells #[.slice AC' i cC', .slice (some ⟨gt', 0, none⟩) n n] 26) = W4 at *
  generalize w3.heap.size = q2 at *
  have d0 := HB.out.lay.cellB 5 rfl 0 (by omega)
  have d1 := HB.out.lay.cellB 5 rfl 1 (by omega)
  simp only [ofL_0, ofL_1] at d0 d1
  go_loopw [12] (fun v wr => ∃ p : Nat, p ≤ n ∧ v = .int .i64 (p : Nat) ∧ Hid (Sim W4 wr)) (fun v _ => n - (intOf v).toNat)
  case atStart => exact ⟨0, by omega, rfl, Lib.hid ⟨rfl, rfl, rfl, rfl⟩⟩
  case round =>
    obtain ⟨p, hp, rfl, HS⟩ := hrel
    by_cases hlt : p < n
    · obtain ⟨A1, cap1, c2, ha1, ha2, hr1⟩ := told_rd (LayQ.sim HA.out HS.out) hlt
      obtain ⟨A2, cap2, d2, hb1, hb2, hr2⟩ := told_rd (LayQ.sim HB.out HS.out) hlt
      have hpf := HPF.out p
      have hle := hpf.length_le
      have c0' := (cell_sim HS.out _).trans c0
      have c1' := (cell_sim HS.out _).trans c1
      have d0' := (cell_sim HS.out _).trans d0
      have d1' := (cell_sim HS.out _).trans d1
      have HI := Lib.hid (fun W' (hs : Sim wr W') => ints_eq (s2.told p).length cap2 W'.heap.size A2 (fun j => (((s2.told p)[j]?.getD 0 : Nat) : Int)) cap1 W'.heap.size A1 (fun j => (((s1.told p)[j]?.getD 0 : Nat) : Int)) W' (by omega) (by
        have : W'.heap = wr.heap := hs.1
        have h := hr2
        rw [this]
        exact h.keep fun q _ => cell_sim hs q) (by
        have : W'.heap = wr.heap := hs.1
        rw [this]
        exact (hr1.less hle).keep fun q _ => cell_sim hs q) (fun j hj => by
        obtain ⟨t, ht⟩ := hpf
        rw [← ht, List.getElem?_append_left hj]))
      have ha2' : cap1 ≤ 9223372036854775807 := by unfold maxLen at ha2; omega
      have hb2' : cap2 ≤ 9223372036854775807 := by unfold maxLen at hb2; omega
      clear hr1 hr2 hpf ha2 hb2 c0 c1 d0 d1
      generalize (s1.told p).length = l1 at *
      generalize (s2.told p).length = l2 at *
      go_wp2
      refine wp_text 31 (by kernel_rfl) (by kernel_rfl) (by kernel_rfl) (by repeat' (first | (with_reducible apply tame_then) | (with_reducible apply tame_block) | (with_reducible apply tame_scope) | exact tame_gives | exact tame_body (fun _ _ h => ⟨_, h.1⟩))) ?_
      simp only [List.take_succ_cons, List.take_zero, List.drop_succ_cons, List.drop_zero]
      go_wp2
      refine headed ?_
      go_wp2_with fail
      refine (HI.out wr.drew ⟨rfl, rfl, rfl, rfl⟩).mono ?_
      rintro e w5 ⟨rfl, hs5⟩
      have HS5 : Hid (Sim W4 w5) := Lib.hid ⟨hs5.1.trans HS.out.1, hs5.2.1.trans HS.out.2.1, hs5.2.2.1.trans HS.out.2.2.1, hs5.2.2.2.trans HS.out.2.2.2⟩
      clear hs5
      go_wp2
      go_roundw
      case rel => exact ⟨p + 1, by omega, by go_num, HS5⟩
      case measure => simp [intOf]; omega
    · obtain rfl : p = n := by omega
      go_wp2
      go_ret
      exact ⟨rfl, below_sim HBL.out HS.out⟩
set_option maxRecDepth 100000 in
set_option maxHeartbeats 3200000 in
theorem causalFront_bad (n : Int) (m cap k : Nat) (A : Option Addr) (M : Mv) (w : World) (hmc : m ≤ cap) (hcm : cap * 32 ≤ 140737488351232) (hr : Rd w w.heap.size A (m * 4) (mvF M)) (hb : playedB n m = false) (hk : k < 256) :
    Calls Try.prog 5 #[.int .i64 n, .slice A m cap, .int .u8 k] w fun e w' => e = .returned (.bool true) ∧ Below w.heap.size w w' := by
  have HR := Lib.hid hr; clear hr
  have HB := Lib.hid hb
  have HM : Hid (m ≤ maxLen) := Lib.hid (by unfold maxLen; omega)
  clear hb
  go_enter Try.func5, Try.ntmps5
  go_wp2_with fail
  refine (ca_bad n m cap A w HM.out HB.out).mono ?_
  rintro e w1 ⟨rfl, hb1⟩
  obtain ⟨i, hi⟩ : ∃ i, i = k % (m + 1) := ⟨_, rfl⟩
  have him : i ≤ m := by have := Nat.mod_lt k (show 0 < m + 1 by omega); omega
  have e1 : (k : Int) % ((m : Int) + 1) = (i : Nat) := by rw [hi, Int.natCast_emod]; rfl
  clear hi
  have HB1 := Lib.hid (hb1.alloc hb1.size (.cells #[.slice none 0 0, .slice none 0 0] 26)); clear hb1
  go_wp2_with fail
  generalize w1.alloc (.cells #[.slice none 0 0, .slice none 0 0] 26) = W at HB1 ⊢
  refine (ca_shape n i cap A M W (Nat.le_trans him HM.out) (((HR.out.below HB1.out).less (by omega)).more HB1.out.size)).mono ?_
  rintro e w3 ⟨A3, n3, c3, A4, n4, c4, c, rfl, hb3⟩
  have HB3 := Lib.hid ((HB1.out.trans (hb3.mono HB1.out.size)).alloc (Nat.le_trans HB1.out.size hb3.size) (.cells #[.slice A3 n3 c3, .slice A4 n4 c4] 26))
  clear hb3
  go_wp2_with (go_at_call 7; refine (bool_is (played_any n m _) HB.out).mono ?_; rintro e w3 ⟨rfl, rfl⟩; clear HB)
  go_ret
  exact ⟨rfl, HB3.out⟩
theorem causalFront_all (n : Int) (A : Option Addr) (m cap : Nat) (M : Mv) (k : Int) (w : World) (_ : (Lit.int .i64 n).wf = true) (hmc : m ≤ cap ∧ cap * 32 ≤ 140737488351232) (hr : Rd w w.heap.size A (m * 4) (mvF M)) (hk : (Lit.int .u8 k).wf = true) :
    Calls Try.prog 5 #[.int .i64 n, .slice A m cap, .int .u8 k] w fun e w' => e = .returned (.bool true) ∧ Below w.heap.size w w' := by
  obtain ⟨k, rfl, hk2⟩ := u8_nat hk
  cases hb : playedB n m
  · exact causalFront_bad n m cap k A M w hmc.1 hmc.2 hr hb hk2
  · obtain ⟨h1, h2, h3⟩ := playedB_iff.1 hb
    obtain ⟨n, rfl⟩ := Int.eq_ofNat_of_zero_le (show 0 ≤ n by omega)
    exact causalFront_good n m cap k A M w hmc.1 (by unfold maxLen; omega) hr (by omega) (by omega) (by omega) hk2
end Go.Proofs.Ytiljnddjecbmfaa
