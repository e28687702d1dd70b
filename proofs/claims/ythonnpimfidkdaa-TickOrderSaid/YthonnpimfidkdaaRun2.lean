/- The walk of the document's check of a run: the same code as run.Check's. -/
import Derived.Test.YthonnpimfidkdaaRun1
set_option linter.unusedVariables false
set_option linter.unusedSimpArgs false
namespace Go.Proofs.Ythonnpimfidkdaa
open Go.RowKit Go.Maps

theorem cntE_le (E : Ev) (q x : Int) (i : Nat) : cntE E q x i ≤ i := by
  induction i with
  | zero => exact Nat.le_refl _
  | succ i ih => rw [cntE]; split <;> omega

set_option maxRecDepth 100000 in
set_option maxHeartbeats 3000000 in
theorem refCheck_in (n : Nat) (A : Option Addr) (len cap B : Nat) (E : Ev) (w : World) (hs : runSize n len) (hlc : len ≤ cap) (hB : B ≤ w.heap.size) (hr : Rd w B A (len * 3) (evF E)) :
    Calls Try.prog 16 #[.int .i64 n, .slice A len cap] w fun e w' => e = .returned (.int .i64 (runCode n E len)) ∧ Below w.heap.size w w' := by
  have HS := Lib.hid hs
  obtain ⟨h1, h6, hl⟩ := hs
  have HR := Lib.hid hr; clear hr
  go_enter Try.func16, Try.ntmps16
  go_wp2
  go_loopw [24] (fun i wr => ∃ j : Nat, j ≤ len ∧ i = .int .i64 j ∧ Hid (Below w.heap.size w wr) ∧ Hid (∀ i, i < j → evCode n E i = 0)) (fun i _ => len - (intOf i).toNat)
  case atStart => exact ⟨0, by omega, rfl, Below.refl _ _, fun i hi => absurd hi (by omega)⟩
  case round =>
    obtain ⟨j, hj, rfl, HBr, HA⟩ := hrel
    by_cases hlt : j < len
    · obtain ⟨ad, rfl, hbl, c0, c1, c2⟩ := ((HR.out.more hB).below HBr.out).rec3 hlt
      have HB1 : Hid (∀ o, Below w.heap.size w (wr.alloc o)) := fun o => HBr.out.alloc HBr.out.size o
      clear hbl
      by_cases hp : 0 ≤ E.p j ∧ E.p j < n
      · obtain ⟨hp0, hp1⟩ := hp
        by_cases hk : 1 ≤ E.k j ∧ E.k j ≤ 3
        · obtain ⟨hk0, hk3⟩ := hk
          by_cases hk1 : E.k j ≤ 1
          · have HN : Hid (evCode n E j = 0) := evCode_mk ⟨hp0, hp1⟩ ⟨hk0, hk3⟩ (fun h => absurd (by omega) h)
            go_wp2
            go_roundw
            case rel => exact ⟨j + 1, by omega, by go_num, HB1.out _, fun i hi => (Nat.lt_succ_iff_lt_or_eq.1 hi).elim (HA.out i) (fun e => by subst e; exact HN.out)⟩
            case measure => simp [intOf]; omega
          · have hk2 : 2 ≤ E.k j := by omega
            clear hk1
            by_cases hm : 0 ≤ E.m j ∧ E.m j ≤ 20
            · obtain ⟨hm0, hm1⟩ := hm
              go_wp2
              clear c0 c1 c2
              obtain ⟨wo, rfl⟩ : ∃ wo : World, wo = wr := ⟨_, rfl⟩
              go_loopw [7, 8, 61] (fun s t i wi => ∃ l : Nat, l ≤ j ∧ i = .int .i64 l ∧ s = .int .i64 (cntE E 2 (E.m j) l : Nat) ∧ t = .int .i64 (cntE E 3 (E.m j) l : Nat) ∧
                  Hid (Below (wo.heap.size + 1) (wo.alloc (.cells #[.int .i64 (E.p j), .int .i64 (E.k j), .int .i64 (E.m j)] 32)) wi)) (fun _ _ i _ => j - (intOf i).toNat)
              case atStart => exact ⟨0, by omega, rfl, rfl, rfl, Below.refl _ _⟩
              case round =>
                obtain ⟨l, hlj, rfl, rfl, rfl, HBi⟩ := hrel
                have e0 : wr.cell? ⟨wo.heap.size, 0, none⟩ = some (.int .i64 (E.p j)) := by rw [HBi.out.cell (p := ⟨wo.heap.size, 0, none⟩) (by simp)]; simp
                have e1 : wr.cell? ⟨wo.heap.size, 1, none⟩ = some (.int .i64 (E.k j)) := by rw [HBi.out.cell (p := ⟨wo.heap.size, 1, none⟩) (by simp)]; simp
                have e2 : wr.cell? ⟨wo.heap.size, 2, none⟩ = some (.int .i64 (E.m j)) := by rw [HBi.out.cell (p := ⟨wo.heap.size, 2, none⟩) (by simp)]; simp
                have hsz : wo.heap.size < wr.heap.size := by have := HBi.out.size; simp at this; omega
                have HBw : Hid (Below w.heap.size w wr) := (HB1.out _).trans (HBi.out.mono (by have := HBr.out.size; omega))
                have hc2 := cntE_le E 2 (E.m j) l
                have hc3 := cntE_le E 3 (E.m j) l
                by_cases hlt2 : l < j
                · obtain ⟨ad', hA, hbl, d0, d1, d2⟩ := ((HR.out.more hB).below HBw.out).rec3 (j := l) (by omega)
                  injection hA with hA
                  subst hA
                  clear hbl
                  have HC2 : Hid (cntE E 2 (E.m j) (l + 1) = if E.k l = 2 ∧ E.m l = E.m j then cntE E 2 (E.m j) l + 1 else cntE E 2 (E.m j) l) := rfl
                  have HC3 : Hid (cntE E 3 (E.m j) (l + 1) = if E.k l = 3 ∧ E.m l = E.m j then cntE E 3 (E.m j) l + 1 else cntE E 3 (E.m j) l) := rfl
                  have HB2 : Hid (∀ o, Below (wo.heap.size + 1) (wo.alloc (.cells #[.int .i64 (E.p j), .int .i64 (E.k j), .int .i64 (E.m j)] 32)) (wr.alloc o)) := fun o => HBi.out.alloc (by omega) o
                  cases ha : (E.k l == 2)
                  all_goals cases hb : (E.m l == E.m j)
                  all_goals cases hc : (E.k l == 3)
                  all_goals
                    have HH : Hid (((E.k l == 2) = _ ∧ (E.m l == E.m j) = _) ∧ (E.k l == 3) = _) := ⟨⟨ha, hb⟩, hc⟩
                    first
                      | (exfalso; have h1 : E.k l = 2 := by simpa using ha
                         rw [h1] at hc; simp at hc; done)
                      | skip
                  all_goals
                    go_wp2
                    go_roundw
                    case rel =>
                      refine ⟨l + 1, by omega, by go_num, ?_, ?_, HB2.out _⟩
                      · rw [HC2.out]
                        have h1 := HH.out.1.1
                        have h2 := HH.out.1.2
                        simp only [beq_iff_eq, beq_eq_false_iff_ne] at h1 h2
                        simp [h1, h2]
                      · rw [HC3.out]
                        have h1 := HH.out.2
                        have h2 := HH.out.1.2
                        simp only [beq_iff_eq, beq_eq_false_iff_ne] at h1 h2
                        simp [h1, h2]
                    case measure => simp [intOf]; omega
                · obtain rfl : l = j := by omega
                  obtain ⟨q1, q2, q3⟩ := stE_cnt HA.out (E.m l)
                  have HQ := Lib.hid q1; clear q1
                  generalize hS : cntE E 2 (E.m l) l = S at *
                  generalize hT : cntE E 3 (E.m l) l = T at *
                  clear hS hT
                  have HN2 : Hid (E.k l - 2 = (S : Int) + T → evCode n E l = 0) := fun h => evCode_mk ⟨hp0, hp1⟩ ⟨hk0, hk3⟩ (fun _ => ⟨⟨hm0, hm1⟩, by rw [HQ.out]; omega⟩)
                  have HN3 : Hid (E.k l - 2 ≠ (S : Int) + T → runCode n E len = 3) := by
                    intro h
                    have : evCode n E l = 3 := by unfold evCode; rw [if_neg (by omega), if_neg (by omega), if_neg (by omega), if_neg (by omega), if_pos (by rw [HQ.out]; omega)]
                    rw [runCode_hit HS.out hlt HA.out (by rw [this]; omega), this]
                  obtain ⟨X2, X3, hx2, hx3, hX⟩ : ∃ X2 X3 : Bool, (E.k l == 2) = X2 ∧ (E.k l == 3) = X3 ∧ ((X2 = true ∧ X3 = false ∧ E.k l ≤ 2) ∨ (X2 = false ∧ X3 = true ∧ 3 ≤ E.k l)) := by
                    refine ⟨_, _, rfl, rfl, ?_⟩
                    rcases (by omega : E.k l = 2 ∨ E.k l = 3) with h | h <;> rw [h] <;> simp
                  rcases hX with ⟨rfl, rfl, hk⟩ | ⟨rfl, rfl, hk⟩
                  all_goals
                    obtain ⟨XS, hxs, hX⟩ : ∃ XS : Bool, ((S : Int) == 0) = XS ∧ ((XS = true ∧ S ≤ 0) ∨ (XS = false ∧ 1 ≤ S)) := by
                      refine ⟨_, rfl, ?_⟩
                      rcases (by omega : S = 0 ∨ S = 1) with h | h <;> rw [h] <;> simp
                  all_goals rcases hX with ⟨rfl, hs⟩ | ⟨rfl, hs⟩
                  all_goals rcases (by omega : T ≤ 0 ∨ 1 ≤ T) with ht | ht
                  all_goals first
                    | (exfalso; omega)
                    | (go_wp2
                       all_goals first
                         | (exfalso; omega)
                         | (go_ret
                            exact ⟨ret_int (HN3.out (by omega)).symm, HBw.out⟩)
                         | (go_roundw
                            case rel => exact ⟨l + 1, by omega, by go_num, HBw, fun i hi => (Nat.lt_succ_iff_lt_or_eq.1 hi).elim (HA.out i) (fun e => by subst e; exact HN2.out (by omega))⟩
                            case measure => simp [intOf]; omega))
            · have HN : Hid (evCode n E j = 4) := by show evCode n E j = 4; unfold evCode; rw [if_neg (by omega), if_neg (by omega), if_neg (by omega), if_pos (by omega)]
              have HV := Lib.hid (runCode_hit HS.out hlt HA.out (by rw [HN.out]; omega))
              go_wp2
              all_goals first | (go_ret; exact ⟨ret_int (HN.out.symm.trans HV.out.symm), HB1.out _⟩) | (exfalso; omega)
        · have HN : Hid (evCode n E j = 6) := by show evCode n E j = 6; unfold evCode; rw [if_neg (by omega), if_pos (by omega)]
          have HV := Lib.hid (runCode_hit HS.out hlt HA.out (by rw [HN.out]; omega))
          go_wp2
          all_goals first | (go_ret; exact ⟨ret_int (HN.out.symm.trans HV.out.symm), HB1.out _⟩) | (exfalso; omega)
      · have HN : Hid (evCode n E j = 2) := by show evCode n E j = 2; unfold evCode; rw [if_pos (by omega)]
        have HV := Lib.hid (runCode_hit HS.out hlt HA.out (by rw [HN.out]; omega))
        go_wp2
        all_goals first | (go_ret; exact ⟨ret_int (HN.out.symm.trans HV.out.symm), HB1.out _⟩) | (exfalso; omega)
    · obtain rfl : j = len := by omega
      have HV := Lib.hid (runCode_good HS.out HA.out)
      go_wp2
      go_ret
      exact ⟨ret_int HV.out.symm, HBr.out⟩
theorem refCheck_any (n : Int) (A : Option Addr) (len cap B : Nat) (E : Ev) (w : World) (hlc : len ≤ cap) (hm : len ≤ maxLen) (hB : B ≤ w.heap.size) (hr : Rd w B A (len * 3) (evF E)) :
    Calls Try.prog 16 #[.int .i64 n, .slice A len cap] w fun e w' => e = .returned (.int .i64 (runCode n E len)) ∧ Below w.heap.size w w' := by
  unfold maxLen at hm
  by_cases hs : runSize n len
  · obtain ⟨n, rfl⟩ := Int.eq_ofNat_of_zero_le (by have := hs.1; omega : 0 ≤ n)
    exact refCheck_in n A len cap B E w hs hlc hB hr
  · have HW := Lib.hid (runCode_size (E := E) hs)
    have hs' : n < 1 ∨ 6 < n ∨ 30 < len := by unfold runSize at hs; omega
    clear hs hr
    go_enter Try.func16, Try.ntmps16
    go_wp2
    all_goals first | (go_ret; exact ⟨ret_int HW.out.symm, Below.refl _ _⟩) | (exfalso; omega)
end Go.Proofs.Ythonnpimfidkdaa
