/- The walk of Better. -/
import Derived.Test.YtgjmnnbcclgahaaBet2
set_option linter.unusedVariables false
set_option linter.unusedSimpArgs false
namespace Go.Proofs.Ytgjmnnbcclgahaa
open Go.RowKit

set_option maxHeartbeats 800000 in
theorem better_good (n : Nat) (A : Option Addr) (cap B : Nat) (L : List Nat) (w : World) (h1 : 1 ≤ n) (h6 : n ≤ 6) (hmc : L.length ≤ cap) (hB : B ≤ w.heap.size) (hr : Rd w B A L.length (fun j => .int .u32 (lf L j : Nat))) (hg : Good n L) :
    Calls Try.prog 23 #[.int .i64 n, .slice A L.length cap] w (Gives fun v w' => Below w.heap.size w w' ∧ (v = .tuple #[.slice none 0 0, .int .i64 1] ∨
      ∃ A' cap' L', v = .tuple #[.slice A' L'.length cap', .int .i64 0] ∧ L'.length ≤ cap' ∧ Rd w' w'.heap.size A' L'.length (fun j => .int .u32 (lf L' j : Nat)) ∧ Good n L' ∧ (loserIs (lf L') L'.length n = false ∨ (loserIs (lf L) L.length n = true ∧ betN n L < betN n L')))) := by
  have HR := Lib.hid hr; clear hr
  have HG := Lib.hid hg
  have HQ := Lib.hid (hg.code h1 h6)
  have HT := Lib.hid ((lf_meet L).2 hg.two)
  have hl20 := hg.len
  have HM : Hid (L.length ≤ maxLen) := Lib.hid (by unfold maxLen; omega)
  clear hg
  cases hlo : loserIs (lf L) L.length n
  · have HLO := Lib.hid hlo; clear hlo
    go_enter Try.func23, Try.ntmps23
    go_wp2_with fail
    refine (quWrong_is 0 n A L.length cap B (lf L) 0 w hB HM.out HR.out HQ.out).mono ?_
    rintro e w1 ⟨rfl, hb1⟩
    have HB1 := Lib.hid hb1; clear hb1
    go_wp2_with fail
    refine (bool_is (meet_any A L.length cap w.heap.size (lf L) w1 HM.out hmc ((HR.out.more hB).below HB1.out)) HT.out).mono ?_
    rintro e w1 ⟨rfl, rfl⟩
    go_wp2_with fail
    refine (cloneU_lay A L.length cap w.heap.size (lf L) w1 (by omega) HB1.out.size ((HR.out.more hB).below HB1.out)).mono ?_
    rintro e w2 ⟨v, rfl, A2, c2, rfl, hL⟩
    have HL := Lib.hid hL; clear hL
    go_wp2_with fail
    refine (loser_is false _ n A2 L.length c2 w2.heap.size (lf L) w2 h1 h6 (Nat.le_refl _) HM.out (HL.out.rd1 0 rfl) rfl HLO.out).mono ?_
    rintro e w3 ⟨rfl, hb3⟩
    have HB3 := Lib.hid hb3; clear hb3
    go_wp2
    go_ret2
    refine ⟨_, rfl, HB1.out.trans ((HL.out.bel.trans (HB3.out.mono HL.out.size)).mono HB1.out.size), .inr ⟨A2, c2, L, rfl, (HL.out.own 0 _ rfl).le.1, ?_, HG.out, .inl HLO.out⟩⟩
    exact (HL.out.keep HB3.out).rd1 0 rfl
  · have HLO := Lib.hid hlo; clear hlo
    obtain ⟨sv, hsv⟩ : ∃ sv, loserS (lf L) L.length n = sv := ⟨_, rfl⟩
    obtain ⟨p, hp⟩ : ∃ p : Nat, p = 2 ^ n := ⟨_, rfl⟩
    have hE : (2 : Int) ^ n = (p : Int) := by rw [hp]; simp
    have hp64 : p ≤ 64 := by rw [hp]; exact pow_small h6
    have hs := (loser_at HLO.out).1
    rw [hsv, ← hp] at hs
    have HW : Hid (betW n L = p - 1 - sv) := Lib.hid (by rw [betW, hsv, hp])
    have HS := Lib.hid hsv
    have HE2 : Hid ((p : Int) - 1 - sv = ((p - 1 - sv : Nat) : Int)) := Lib.hid (by omega)
    clear hsv hp
    go_enter Try.func23, Try.ntmps23
    go_wp2_with fail
    refine (quWrong_is 0 n A L.length cap B (lf L) 0 w hB HM.out HR.out HQ.out).mono ?_
    rintro e w1 ⟨rfl, hb1⟩
    have HB1 := Lib.hid hb1; clear hb1
    go_wp2_with fail
    refine (bool_is (meet_any A L.length cap w.heap.size (lf L) w1 HM.out hmc ((HR.out.more hB).below HB1.out)) HT.out).mono ?_
    rintro e w1 ⟨rfl, rfl⟩
    go_wp2_with fail
    refine (cloneU_lay A L.length cap w.heap.size (lf L) w1 (by omega) HB1.out.size ((HR.out.more hB).below HB1.out)).mono ?_
    rintro e w2 ⟨v, rfl, A2, c2, rfl, hL⟩
    have HL := Lib.hid hL; clear hL
    go_wp2_with fail
    refine (loser_is true sv n A2 L.length c2 w2.heap.size (lf L) w2 h1 h6 (Nat.le_refl _) HM.out (HL.out.rd1 0 rfl) HS.out HLO.out).mono ?_
    rintro e w3 ⟨rfl, hb3⟩
    have HL3 := Lib.hid (HL.out.keep hb3); clear hb3 HL
    obtain ⟨q, hq⟩ : ∃ q, q = p - 1 - sv := ⟨_, rfl⟩
    have HQ2 : Hid ((p : Int) - 1 - sv = (q : Nat)) := by rw [hq]; exact HE2
    have HW2 : Hid (betW n L = q) := by rw [hq]; exact HW
    clear HE2 HW hq
    go_wp2_with fail
    rw [HQ2.out]
    have HL4 := Lib.hid ((HL3.out.newB [.int .u32 (q : Nat)] 23 1 rfl w3.heap.size rfl).swap)
    clear HL3
    refine at_lay (F := fun W' => Calls _ _ _ W' _) HL4.out ?_
    intro W hW
    clear HL4
    refine (delB_lay L A2 c2 w3.heap.size q w1 W hl20 hW).mono ?_
    rintro e w4 ⟨v, rfl, rfl, hL5⟩
    have HL5 := Lib.hid hL5; clear hL5
    obtain ⟨K, hK⟩ : ∃ K, K = L.filter (fun x => !sub32 q x) := ⟨_, rfl⟩
    have HLK : Hid (betL n L = K ++ [q]) := Lib.hid (by rw [betL, HW2.out, hK])
    have hk20 : K.length ≤ 20 := by rw [hK]; exact Nat.le_trans (List.length_filter_le _ _) hl20
    rw [← hK] at HL5 ⊢
    clear hK
    obtain ⟨g3, hg3⟩ : ∃ g3, g3 = w3.heap.size := ⟨_, rfl⟩
    rw [← hg3] at HL5 ⊢
    clear hg3 hW
    obtain ⟨iI, hiI, hzI0, hzI1, hzI2⟩ := info_parts infoU32
    have hc4 : w4.cell? ⟨g3, 0, none⟩ = some (.int .u32 (q : Nat)) := HL5.out.cellB 1 rfl 0 (by omega)
    have HL6 := Lib.hid (HL5.out.alloc (.cells #[.int .u32 (q : Nat)] 23))
    obtain ⟨k, hk⟩ : ∃ k, k = K.length := ⟨_, rfl⟩
    have HKL := Lib.hid hk
    rw [← hk] at hk20 HL6 ⊢
    clear hk
    have hgo : ∀ x, x = K.length + 1 → (betL n L).length = x := fun x hx => by rw [HLK.out, List.length_append, hx]; rfl
    have HGO := Lib.hid hgo; clear hgo
    by_cases hbig : 20 < k + 1
    · go_wp2_with (first
        | (at_builtin; refine wpList_ap1 rfl (.tmp 38) (.tmp 40) _ rfl 23 iI _ 4 Try.underlying22 hiI hzI0 hzI1 hzI2 rfl w1.heap.size rfl (HL6.out.own 0 _ rfl) rfl (cell_new w4 #[.int .u32 (q : Nat)] 23 (n := 1) (fun _ => .int .u32 (q : Nat)) w4.heap.size rfl (one_at rfl)) (fun _ _ => rfl) (fun j => .int .u32 (lf (K ++ [q]) j : Nat)) (fun j hj => by rw [lf_app, if_pos (by rw [← HKL.out]; exact hj)]) (fun j hj => by rw [lf_app, if_neg (by rw [← HKL.out]; omega), if_pos (by rw [← HKL.out]; omega)]) (k + 1) rfl (by unfold maxLen; omega) (by omega) HL6.out.size ?_
           intro A5 c5 w5 ho hg ha
           have HL7 := Lib.hid (HL6.out.app 0 rfl ho hg ha)
           clear ho hg ha HL6)
        | fail)
      go_ret2
      exact ⟨_, rfl, HB1.out.trans (HL7.out.bel.mono HB1.out.size), .inl rfl⟩
    · go_wp2_with (first
        | (at_builtin; refine wpList_ap1 rfl (.tmp 38) (.tmp 40) _ rfl 23 iI _ 4 Try.underlying22 hiI hzI0 hzI1 hzI2 rfl w1.heap.size rfl (HL6.out.own 0 _ rfl) rfl (cell_new w4 #[.int .u32 (q : Nat)] 23 (n := 1) (fun _ => .int .u32 (q : Nat)) w4.heap.size rfl (one_at rfl)) (fun _ _ => rfl) (fun j => .int .u32 (lf (K ++ [q]) j : Nat)) (fun j hj => by rw [lf_app, if_pos (by rw [← HKL.out]; exact hj)]) (fun j hj => by rw [lf_app, if_neg (by rw [← HKL.out]; omega), if_pos (by rw [← HKL.out]; omega)]) (k + 1) rfl (by unfold maxLen; omega) (by omega) HL6.out.size ?_
           intro A5 c5 w5 ho hg ha
           have HL7 := Lib.hid (HL6.out.app 0 rfl ho hg ha)
           clear ho hg ha HL6)
        | fail)
      go_ret2
      refine ⟨_, rfl, HB1.out.trans (HL7.out.bel.mono HB1.out.size), .inr ⟨A5, c5, betL n L, by rw [HGO.out (k + 1) (by rw [HKL.out])]; rfl, ?_, ?_, bet_good h1 h6 HG.out HLO.out (by rw [HGO.out (k + 1) (by rw [HKL.out])]; omega), .inr (bet_more h1 h6 HG.out HLO.out)⟩⟩
      · rw [HGO.out (k + 1) (by rw [HKL.out])]; exact (HL7.out.own 0 _ rfl).le.1
      · rw [HGO.out (k + 1) (by rw [HKL.out]), HLK.out]; exact HL7.out.rd1 0 rfl
set_option maxHeartbeats 800000 in
theorem better_bad (n : Int) (A : Option Addr) (m cap B : Nat) (f : Nat → Nat) (w : World) (hmc : m ≤ cap) (hB : B ≤ w.heap.size) (hm : m ≤ maxLen) (hr : Rd w B A m (fun j => .int .u32 (f j : Nat))) (hg : fullCode n f m ≠ 0) :
    Calls Try.prog 23 #[.int .i64 n, .slice A m cap] w fun e w' => e = .returned (.tuple #[.slice none 0 0, .int .i64 (fullCode n f m)]) ∧ Below w.heap.size w w' := by
  have HM := Lib.hid hm; clear hm
  have HR := Lib.hid hr; clear hr
  by_cases hc : quCode n f m 0 = 0
  · have HT : Hid (meetB f m = false) := by
      cases hq : meetB f m
      · rfl
      · exact absurd (by rw [fullCode, if_pos hc, hq]; rfl) hg
    have HV : Hid (fullCode n f m = 3) := by show fullCode n f m = 3; rw [fullCode, if_pos hc, HT.out]; rfl
    have HG := Lib.hid hc
    clear hc hg
    go_enter Try.func23, Try.ntmps23
    go_wp2_with fail
    refine (quWrong_is 0 n A m cap B f 0 w hB HM.out HR.out HG.out).mono ?_
    rintro e w1 ⟨rfl, hb1⟩
    have HB1 := Lib.hid hb1; clear hb1
    go_wp2_with fail
    refine (bool_is (meet_any A m cap w.heap.size f w1 HM.out hmc ((HR.out.more hB).below HB1.out)) HT.out).mono ?_
    rintro e w1 ⟨rfl, rfl⟩
    go_wp2
    go_ret2
    exact ⟨by rw [HV.out]; rfl, HB1.out⟩
  · have HV : Hid (quCode n f m 0 = fullCode n f m) := by show _ = fullCode n f m; rw [fullCode, if_neg hc]
    have hg2 : (fullCode n f m == 0) = false := beq_eq_false_iff_ne.2 hg
    clear hc hg
    go_enter Try.func23, Try.ntmps23
    go_wp2_with fail
    refine (quWrong_is _ n A m cap B f 0 w hB HM.out HR.out HV.out).mono ?_
    rintro e w1 ⟨rfl, hb1⟩
    have HB1 := Lib.hid hb1; clear hb1
    go_wp2
    go_ret2
    exact ⟨rfl, HB1.out⟩
end Go.Proofs.Ytgjmnnbcclgahaa
