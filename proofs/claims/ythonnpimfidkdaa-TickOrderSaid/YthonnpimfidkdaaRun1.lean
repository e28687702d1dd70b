/- The walks of run.Check and of the document's check. -/
import Derived.Test.YthonnpimfidkdaaMapI
import Derived.Test.YthonnpimfidkdaaRunMath
set_option linter.unusedVariables false
set_option linter.unusedSimpArgs false
namespace Go.Proofs.Ythonnpimfidkdaa
open Go.RowKit Go.Maps

theorem zeroInt (w : World) : (zeroValue 3).run Try.prog w = .ok (.int .i64 0) w := by kernel_rfl
theorem keyInt : Keyed Try.prog 3 := int_keyed Try.underlying3

/-- The events' cells. -/
abbrev evF (E : Ev) : Nat → Value := recF3 E.p E.k E.m

set_option maxHeartbeats 1600000 in
theorem check_in (n : Nat) (A : Option Addr) (len cap B : Nat) (E : Ev) (w : World) (hs : runSize n len) (hB : B ≤ w.heap.size) (hr : Rd w B A (len * 3) (evF E)) :
    Calls Try.prog 10 #[.int .i64 n, .slice A len cap] w fun e w' => e = .returned (.int .i64 (runCode n E len)) ∧ Below w.heap.size w w' := by
  have HS := Lib.hid hs
  obtain ⟨h1, h6, hl⟩ := hs
  have HR := Lib.hid hr; clear hr
  have hmm := @run_makeMap Try.prog
  go_enter Try.func10, Try.ntmps10
  go_wp2
  go_loopw [22] (fun i wr => ∃ j : Nat, j ≤ len ∧ i = .int .i64 j ∧ Hid (Below w.heap.size w wr) ∧ Hid (w.heap.size < wr.heap.size) ∧ Hid (MapI wr Try.prog 3 3 .i64 .i64 w.heap.size j (stE E j)) ∧ Hid (∀ i, i < j → evCode n E i = 0)) (fun i _ => len - (intOf i).toNat)
  case atStart => exact ⟨0, by omega, rfl, (Below.refl _ _).alloc (Nat.le_refl _) _, by show w.heap.size < (w.alloc _).heap.size; simp, MapI.made _ _ _ _ _ _, fun i hi => absurd hi (by omega)⟩
  case round =>
    obtain ⟨j, hj, rfl, HBr, HZ, HMr, HA⟩ := hrel
    by_cases hlt : j < len
    · obtain ⟨ad, rfl, hbl, c0, c1, c2⟩ := ((HR.out.more hB).below HBr.out).rec3 hlt
      have HBD := Lib.hid (stE_bd HA.out (E.m j))
      have HB1 : Hid (∀ o, Below w.heap.size w (wr.alloc o)) := fun o => HBr.out.alloc (by have := HZ.out; omega) o
      clear hbl
      by_cases hp : 0 ≤ E.p j ∧ E.p j < n
      · obtain ⟨hp0, hp1⟩ := hp
        by_cases hk : 1 ≤ E.k j ∧ E.k j ≤ 3
        · obtain ⟨hk0, hk3⟩ := hk
          by_cases hk1 : E.k j ≤ 1
          · have HN : Hid (evCode n E j = 0) := evCode_mk ⟨hp0, hp1⟩ ⟨hk0, hk3⟩ (fun h => absurd (by omega) h)
            have HST : Hid (stE E (j + 1) = stE E j) := by
              funext x
              rw [stE, if_neg (fun h => h.1 (by omega))]
            go_wp2
            go_roundw
            case rel => exact ⟨j + 1, by omega, by go_num, HB1.out _, by have := HZ.out; show w.heap.size < (wr.alloc _).heap.size; simp; omega, by show MapI _ _ _ _ _ _ _ _ _; rw [HST.out]; exact (HMr.out.alloc _).mono (by omega), fun i hi => (Nat.lt_succ_iff_lt_or_eq.1 hi).elim (HA.out i) (fun e => by subst e; exact HN.out)⟩
            case measure => simp [intOf]; omega
          · have hk2 : 2 ≤ E.k j := by omega
            clear hk1
            by_cases hm : 0 ≤ E.m j ∧ E.m j ≤ 20
            · obtain ⟨hm0, hm1⟩ := hm
              cases hst : (stE E j (E.m j) != E.k j - 2)
              · have HEQ : Hid (stE E j (E.m j) = E.k j - 2) := bne_eq_false_iff_eq.1 hst
                have HN : Hid (evCode n E j = 0) := evCode_mk ⟨hp0, hp1⟩ ⟨hk0, hk3⟩ (fun _ => ⟨⟨hm0, hm1⟩, HEQ.out⟩)
                have hb0 : 0 ≤ stE E j (E.m j) := HBD.out.1
                have hb2 : stE E j (E.m j) ≤ 2 := HBD.out.2
                go_wp2_with (first
                  | (at_lookup; refine wpList_mget rfl _ _ 48 rfl keyInt Try.underlying3 Try.underlying48 Try.underlying3 (zeroInt _) rfl (HMr.out.alloc _) (E.m j) rfl (WalkArith.wf_i64 (by omega)) ?_; intro _)
                  | (at_mapUpdate; refine wpList_mput rfl _ _ _ 48 rfl keyInt Try.underlying3 Try.underlying48 Try.underlying3 rfl (HMr.out.alloc _) (by unfold maxLen; omega) (E.m j) (stE E j (E.m j) + 1) rfl rfl (WalkArith.wf_i64 (by omega)) (WalkArith.wf_i64 (by omega)) (stE E (j + 1)) (by rw [stE, if_pos ⟨by omega, rfl⟩]) (fun y hy => by rw [stE, if_neg (fun h => hy h.2)]) ?_
                     intro w2 hm2 hg2
                     have HM2 := Lib.hid hm2
                     have HG2 := Lib.hid hg2
                     clear hm2 hg2))
                go_roundw
                case rel => exact ⟨j + 1, by omega, by go_num, (HB1.out _).grown HG2.out (by have := HZ.out; simp; omega) (by intro k hk; cases hk; exact Nat.le_refl _), by have := HZ.out; have := HG2.out.size; show w.heap.size < w2.heap.size; simp at this; omega, HM2.out, fun i hi => (Nat.lt_succ_iff_lt_or_eq.1 hi).elim (HA.out i) (fun e => by subst e; exact HN.out)⟩
                case measure => simp [intOf]; omega
              · have HNE : Hid (stE E j (E.m j) ≠ E.k j - 2) := bne_iff_ne.1 hst
                have HN : Hid (evCode n E j = 3) := by show evCode n E j = 3; unfold evCode; rw [if_neg (by omega), if_neg (by omega), if_neg (by omega), if_neg (by omega), if_pos HNE.out]
                have HV := Lib.hid (runCode_hit HS.out hlt HA.out (by rw [HN.out]; omega))
                go_wp2_with (at_lookup; refine wpList_mget rfl _ _ 48 rfl keyInt Try.underlying3 Try.underlying48 Try.underlying3 (zeroInt _) rfl (HMr.out.alloc _) (E.m j) rfl (WalkArith.wf_i64 (by omega)) ?_; intro _)
                go_ret
                exact ⟨ret_int (HN.out.symm.trans HV.out.symm), HB1.out _⟩
            · have HN : Hid (evCode n E j = 4) := by show evCode n E j = 4; unfold evCode; rw [if_neg (by omega), if_neg (by omega), if_neg (by omega), if_pos (by omega)]
              have HV := Lib.hid (runCode_hit HS.out hlt HA.out (by rw [HN.out]; omega))
              go_wp2
              all_goals first | (go_ret; exact ⟨ret_int (HN.out.symm.trans HV.out.symm), HB1.out _⟩) | (exfalso; omega)
        · have HN : Hid (evCode n E j = 6) := by show evCode n E j = 6; unfold evCode; rw [if_neg (by omega), if_pos (by omega)]
          have HV := Lib.hid (runCode_hit HS.out hlt HA.out (by rw [HN.out]; omega))
          go_wp2
          all_goals first | (go_ret; exact ⟨ret_int (HN.out.symm.trans HV.out.symm), HB1.out _⟩) | (exfalso; omega)
      · have HN : Hid (evCode n E j = 2) := by show evCode n E j = 2; unfold evCode; rw [if_pos (by omega)]
        have HV := Lib.hid (runCode_hit HS.out hlt HA.out (by rw [HN.out]; omega))
        go_wp2
        all_goals first | (go_ret; exact ⟨ret_int (HN.out.symm.trans HV.out.symm), HB1.out _⟩) | (exfalso; omega)
    · obtain rfl : j = len := by omega
      have HV := Lib.hid (runCode_good HS.out HA.out)
      go_wp2
      go_ret
      exact ⟨ret_int HV.out.symm, HBr.out⟩
theorem check_any (n : Int) (A : Option Addr) (len cap B : Nat) (E : Ev) (w : World) (hm : len ≤ maxLen) (hB : B ≤ w.heap.size) (hr : Rd w B A (len * 3) (evF E)) :
    Calls Try.prog 10 #[.int .i64 n, .slice A len cap] w fun e w' => e = .returned (.int .i64 (runCode n E len)) ∧ Below w.heap.size w w' := by
  unfold maxLen at hm
  by_cases hs : runSize n len
  · obtain ⟨n, rfl⟩ := Int.eq_ofNat_of_zero_le (by have := hs.1; omega : 0 ≤ n)
    exact check_in n A len cap B E w hs hB hr
  · have HW := Lib.hid (runCode_size (E := E) hs)
    have hs' : n < 1 ∨ 6 < n ∨ 30 < len := by unfold runSize at hs; omega
    clear hs hr
    go_enter Try.func10, Try.ntmps10
    go_wp2
    all_goals first | (go_ret; exact ⟨ret_int HW.out.symm, Below.refl _ _⟩) | (exfalso; omega)
end Go.Proofs.Ythonnpimfidkdaa
