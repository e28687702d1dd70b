/- The law QuorumBetter, walked. -/
import Derived.Test.YtgjmnnbcclgahaaBet3
set_option linter.unusedVariables false
set_option linter.unusedSimpArgs false
namespace Go.Proofs.Ytgjmnnbcclgahaa
open Go.RowKit

set_option maxHeartbeats 400000 in
theorem quorumBetter_big (n : Int) (A : Option Addr) (m cap : Nat) (w : World) (hn : 4 < n) :
    Calls Try.prog 9 #[.int .i64 n, .slice A m cap] w fun e w' => e = .returned (.bool true) ∧ Below w.heap.size w w' := by
  go_enter Try.func9, Try.ntmps9
  go_wp2
  go_ret
  exact ⟨rfl, Below.refl _ _⟩
set_option maxHeartbeats 800000 in
theorem quorumBetter_bad (n : Int) (A : Option Addr) (m cap : Nat) (f : Nat → Nat) (w : World) (hn : n ≤ 4) (hmc : m ≤ cap) (hm : m ≤ maxLen) (hr : Rd w w.heap.size A m (fun j => .int .u32 (f j : Nat))) (hbad : fullCode n f m ≠ 0) :
    Calls Try.prog 9 #[.int .i64 n, .slice A m cap] w fun e w' => e = .returned (.bool true) ∧ Below w.heap.size w w' := by
  have HM := Lib.hid hm; clear hm
  have HR := Lib.hid hr; clear hr
  have HMET : Hid ((quCode n f m 0 == 0 && refMeetB f m) = false) := by
    show (quCode n f m 0 == 0 && refMeetB f m) = false
    rw [← Bool.not_eq_true, Bool.and_eq_true]
    rintro ⟨h1, h2⟩
    have h1 : quCode n f m 0 = 0 := by simpa using h1
    rw [meet_ref (qu_small h1)] at h2
    exact hbad (fullCode_zero.2 ⟨h1, h2⟩)
  have hb2 : (fullCode n f m != 0) = true := by simpa using hbad
  have HG := Lib.hid hbad; clear hbad
  go_enter Try.func9, Try.ntmps9
  go_wp2_with fail
  refine (better_bad n A m cap w.heap.size f w hmc (Nat.le_refl _) HM.out HR.out HG.out).mono ?_
  rintro e w1 ⟨rfl, hb1⟩
  have HB1 := Lib.hid hb1; clear hb1
  go_wp2_with fail
  have HC := met_any n A m cap w.heap.size f w1 HB1.out.size HM.out (HR.out.below HB1.out)
  rw [HMET.out] at HC
  refine HC.mono ?_
  clear HC
  rintro e w2 ⟨rfl, hb2⟩
  have HB2 := Lib.hid (HB1.out.trans (hb2.mono HB1.out.size)); clear hb2
  go_wp2
  go_ret
  exact ⟨rfl, HB2.out⟩
set_option maxHeartbeats 1600000 in
theorem quorumBetter_good (n : Nat) (A : Option Addr) (cap : Nat) (L : List Nat) (w : World) (h1 : 1 ≤ n) (h4 : n ≤ 4) (hmc : L.length ≤ cap) (hr : Rd w w.heap.size A L.length (fun j => .int .u32 (lf L j : Nat))) (hg : Good n L) :
    Calls Try.prog 9 #[.int .i64 n, .slice A L.length cap] w fun e w' => e = .returned (.bool true) ∧ Below w.heap.size w w' := by
  have HR := Lib.hid hr; clear hr
  have HG := Lib.hid hg
  have h6 : n ≤ 6 := by omega
  have HMET : Hid ((quCode n (lf L) L.length 0 == 0 && refMeetB (lf L) L.length) = true) := by
    show (quCode n (lf L) L.length 0 == 0 && refMeetB (lf L) L.length) = true
    have h := hg.code h1 h6
    rw [h, meet_ref (qu_small h), (lf_meet L).2 hg.two]; rfl
  have HM : Hid (L.length ≤ maxLen) := Lib.hid (by have := hg.len; unfold maxLen; omega)
  clear hg
  go_enter Try.func9, Try.ntmps9
  go_wp2_with fail
  refine (better_good n A cap w.heap.size L w h1 h6 hmc (Nat.le_refl _) HR.out HG.out).mono ?_
  rintro e w1 ⟨v, rfl, hb1, hv⟩
  have HB1 := Lib.hid hb1; clear hb1
  have HC := met_any n A L.length cap w.heap.size (lf L) w1 HB1.out.size HM.out (HR.out.below HB1.out)
  rw [HMET.out] at HC
  have HC1 := Lib.hid HC; clear HC HR HG HMET HM
  obtain ⟨lv, ev, rfl, hv2⟩ : ∃ lv ev, v = .tuple #[lv, ev] ∧ ((ev = .int .i64 1 ∧ lv = .slice none 0 0) ∨ (ev = .int .i64 0 ∧ ∃ A' c' L', lv = .slice A' L'.length c' ∧ L'.length ≤ c' ∧ Rd w1 w1.heap.size A' L'.length (fun j => .int .u32 (lf L' j : Nat)) ∧ Good n L' ∧ (loserIs (lf L') L'.length n = false ∨ 1 ≤ betN n L'))) := by
    rcases hv with rfl | ⟨A', c', L', rfl, e1, e2, e3, e4⟩
    · exact ⟨_, _, rfl, .inl ⟨rfl, rfl⟩⟩
    · exact ⟨_, _, rfl, .inr ⟨rfl, A', c', L', rfl, e1, e2, e3, e4.imp id (fun h => by have := h.2; omega)⟩⟩
  have HV := Lib.hid hv2; clear hv2 hv
  go_wp2_with fail
  refine HC1.out.mono ?_
  clear HC1
  rintro e w2 ⟨rfl, hb2⟩
  have HV2 : Hid ((ev = .int .i64 1 ∧ lv = .slice none 0 0) ∨ (ev = .int .i64 0 ∧ ∃ A' c' L', lv = .slice A' L'.length c' ∧ L'.length ≤ c' ∧ Rd w2 w2.heap.size A' L'.length (fun j => .int .u32 (lf L' j : Nat)) ∧ Good n L' ∧ (loserIs (lf L') L'.length n = false ∨ 1 ≤ betN n L'))) := by
    refine Lib.hid ?_
    rcases HV.out with h | ⟨h, A', c', L', e0, e1, e2, e3, e4⟩
    · exact .inl h
    · exact .inr ⟨h, A', c', L', e0, e1, (e2.below hb2).more hb2.size, e3, e4⟩
  have HB2 := Lib.hid (HB1.out.trans (hb2.mono HB1.out.size)); clear hb2 HB1 HV
  go_wp2
  go_loopw [5, 6, 7] (fun lv ev kv wr => ∃ k : Nat, k ≤ 16 ∧ kv = .int .i64 k ∧ Hid (Below w.heap.size w wr) ∧ Hid ((ev = .int .i64 1 ∧ lv = .slice none 0 0) ∨ (ev = .int .i64 0 ∧ ∃ A' c' L', lv = .slice A' L'.length c' ∧ L'.length ≤ c' ∧ Rd wr wr.heap.size A' L'.length (fun j => .int .u32 (lf L' j : Nat)) ∧ Good n L' ∧ (loserIs (lf L') L'.length n = false ∨ k + 1 ≤ betN n L')))) (fun _ _ kv _ => 16 - (intOf kv).toNat)
  case atStart => exact ⟨0, by omega, rfl, HB2, HV2⟩
  case round =>
    obtain ⟨k, hk, rfl, HB, HV⟩ := hrel
    clear HB2 HV2
    rcases HV.out with ⟨rfl, rfl⟩ | ⟨rfl, A', c', L', rfl, hc, hr, hg, hb⟩
    · clear HV
      by_cases hlt : k < 16
      all_goals
        go_wp2
        go_ret
        exact ⟨rfl, HB.out⟩
    · clear HV
      have HR := Lib.hid hr; clear hr
      have HG := Lib.hid hg; clear hg
      have HN := Lib.hid hb; clear hb
      by_cases hlt : k < 16
      · go_wp2_with fail
        refine (better_good n A' c' wr.heap.size L' wr h1 h6 hc (Nat.le_refl _) HR.out HG.out).mono ?_
        rintro e w3 ⟨v, rfl, hb3, hv⟩
        have HB3 := Lib.hid (HB.out.trans (hb3.mono HB.out.size)); clear hb3
        obtain ⟨lv, ev, rfl, hv2⟩ : ∃ lv ev, v = .tuple #[lv, ev] ∧ ((ev = .int .i64 1 ∧ lv = .slice none 0 0) ∨ (ev = .int .i64 0 ∧ ∃ A' c' L', lv = .slice A' L'.length c' ∧ L'.length ≤ c' ∧ Rd w3 w3.heap.size A' L'.length (fun j => .int .u32 (lf L' j : Nat)) ∧ Good n L' ∧ (loserIs (lf L') L'.length n = false ∨ k + 1 + 1 ≤ betN n L'))) := by
          rcases hv with rfl | ⟨A', c', L', rfl, e1, e2, e3, e4⟩
          · exact ⟨_, _, rfl, .inl ⟨rfl, rfl⟩⟩
          · refine ⟨_, _, rfl, .inr ⟨rfl, A', c', L', rfl, e1, e2, e3, ?_⟩⟩
            rcases e4 with h | ⟨ht, h⟩
            · exact .inl h
            · refine .inr ?_
              rcases HN.out with h2 | h2
              · rw [h2] at ht; cases ht
              · omega
        have HV := Lib.hid hv2; clear hv2 hv
        go_wp2
        go_roundw
        case rel => exact ⟨k + 1, by omega, by go_num, HB3, HV⟩
        case measure => simp [intOf]; omega
      · have hk16 : k = 16 := by omega
        have HL : Hid (loserIs (lf L') L'.length n = false) := Lib.hid (by
          rcases HN.out with h | h
          · exact h
          · have h2 := betN_le n L'
            have h3 : 2 ^ n ≤ 2 ^ 4 := Nat.pow_le_pow_right (by omega) h4
            omega)
        have hpos := full_pos HL.out
        have HC := full_good n A' L'.length c' wr.heap.size (lf L') wr hc (Nat.le_refl _) (by have := HG.out.len; unfold maxLen; omega) HR.out (HG.out.code h1 h6) ((lf_meet L').2 HG.out.two)
        rw [HL.out] at HC
        have HC1 := Lib.hid HC; clear HC
        subst hk16
        go_wp2_with fail
        refine HC1.out.mono ?_
        rintro e w3 ⟨rfl, hb3⟩
        have HB3 := Lib.hid (HB.out.trans (hb3.mono HB.out.size)); clear hb3
        go_wp2
        go_ret
        exact ⟨rfl, HB3.out⟩
theorem quorumBetter_all (n : Int) (A : Option Addr) (m cap : Nat) (f : Nat → Nat) (w : World) (_ : (Lit.int .i64 n).wf = true) (hmc : m ≤ cap ∧ cap ≤ maxLen) (_ : ∀ j, j < m → f j < 4294967296) (hr : Rd w w.heap.size A m (fun j => .int .u32 (f j : Nat))) :
    Calls Try.prog 9 #[.int .i64 n, .slice A m cap] w fun e w' => e = .returned (.bool true) ∧ Below w.heap.size w w' := by
  have hm : m ≤ maxLen := Nat.le_trans hmc.1 hmc.2
  by_cases hn : 4 < n
  · exact quorumBetter_big n A m cap w hn
  · by_cases hc : fullCode n f m = 0
    · obtain ⟨L, hL, hlf⟩ : ∃ L : List Nat, L.length = m ∧ ∀ j, j < m → lf L j = f j := ⟨(List.range m).map f, by simp, fun j hj => by rw [lf_at (by simpa using hj)]; simp⟩
      subst hL
      obtain ⟨hq, hmt⟩ := fullCode_zero.1 hc
      obtain ⟨⟨h1, _, h20⟩, hf, _⟩ := quCode_ok hq
      obtain ⟨n, rfl⟩ := Int.eq_ofNat_of_zero_le (by omega : 0 ≤ n)
      refine quorumBetter_good n A cap L w (by omega) (by omega) hmc.1 (hr.congr fun j hj => by rw [hlf j hj]) ⟨h20, fun x hx => ?_, List.pairwise_iff_getElem.2 fun i j hi hj hij => ?_⟩
      · obtain ⟨j, hj, rfl⟩ := List.mem_iff_getElem.1 hx
        have := hf j hj
        rw [← hlf j hj, lf_at hj] at this
        exact this
      · cases hp : pairBad L[j] L[i]
        · rfl
        · rw [meetB_no (f := f) hj hij (by rw [← hlf j hj, ← hlf i hi, lf_at hj, lf_at hi]; exact hp)] at hmt; cases hmt
    · exact quorumBetter_bad n A m cap f w (by omega) hmc.1 hm hr hc
end Go.Proofs.Ytgjmnnbcclgahaa
