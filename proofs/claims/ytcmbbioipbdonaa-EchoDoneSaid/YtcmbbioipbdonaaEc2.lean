/- The walk of echo.wrong. -/
import Derived.Test.YtcmbbioipbdonaaEc1
import Derived.Deep.RegionLaw
set_option linter.unusedVariables false
set_option linter.unusedSimpArgs false
namespace Go.Proofs.Ytcmbbioipbdonaa
open Go.RowKit

theorem step_callV2 {P : Program} {w : World} {ops : Array Oper} {o : Oper} {a : Act} {K : Act → World → Prop} {Q : Exit → Act → World → Prop} {E : Prop} (hw : Region.wanted o (yielded ops a.tmps) = true) (f : FuncId) (x y : Operand) (ts : Array TypeId)
    (ho : o.op = Op.call { callee := Callee.value (Operand.func f), args := #[x, y], argTypes := ts }) {v u : Value} (hx : a.eval x = v) (hy : a.eval y = u) (heg : ∀ args w, (callFunc f args).run P w = .ok (.enter f args) w)
    (hc : Calls P f #[v, u] w fun e w' => ∃ u, e = .returned u ∧ K (a.put o.dst u) w') : if Region.wanted o (yielded ops a.tmps) = true then Oper.wp P o a w K Q else E := by
  rw [if_pos hw]
  have he : (execOp a.eval o).run P w = .ok (.enter f #[v, u]) w := by
    obtain ⟨dst, op, ty, pos, aft, gd⟩ := o
    have ho : op = _ := ho
    subst ho
    have h2 : (#[] ++ (#[x, y] : Array Operand).map a.eval ++ #[]) = #[v, u] := by simp [hx, hy]
    rw [execOp_call_go, h2]
    exact heg _ _
  unfold Oper.wp
  rw [he]
  refine Calls.mono hc ?_
  rintro e w' ⟨u, rfl, h⟩
  exact h
theorem eg_Cont : ∀ args w, (callFunc 19 args).run Try.prog w = .ok (.enter 19 args) w := by intro args w; rfl
theorem has_sm (p q : Nat → Int) (k : Nat) : (hasP (p k) (q k) p q k || hasP (q k) (p k) p q k) = true ↔ ∃ j, j < k ∧ Sm p q k j := by
  unfold hasP Sm
  rw [Bool.or_eq_true, anyTo_iff, anyTo_iff]
  simp only [Bool.and_eq_true, beq_iff_eq]
  constructor
  · rintro (⟨j, hj, h⟩ | ⟨j, hj, h1, h2⟩)
    · exact ⟨j, hj, .inl h⟩
    · exact ⟨j, hj, .inr ⟨h2, h1⟩⟩
  · rintro ⟨j, hj, h | ⟨h1, h2⟩⟩
    · exact .inl ⟨j, hj, h⟩
    · exact .inr ⟨j, hj, h2, h1⟩
set_option maxHeartbeats 8000000 in
theorem wrong_any (n st : Int) (A AO : Option Addr) (m cap mo co B : Nat) (p q : Nat → Int) (w : World) (hm : m ≤ cap ∧ cap ≤ maxLen) (hmo : mo ≤ maxLen) (hB : B ≤ w.heap.size) (hr : Rd w B A (m * 2) (recF2 p q)) :
    Calls Try.prog 11 #[.int .i64 n, .slice A m cap, .int .i64 st, .slice AO mo co] w (Gives fun v w' => ∃ c : Int, v = .int .i64 c ∧ (c = 0 ↔ LkOk n m p q st mo) ∧ Below w.heap.size w w') := by
  obtain ⟨hmc, hcm⟩ := hm
  unfold maxLen at hcm hmo
  have HR := Lib.hid (hr.more hB); clear hr
  by_cases h1 : 1 ≤ n ∧ n ≤ 6 ∧ m ≤ 15 ∧ mo ≤ 60
  · obtain ⟨h1, h6, h15, h60⟩ := h1
    go_enter Try.func11, Try.ntmps11
    go_wp2
    go_loopw [31] (fun i wr => ∃ k : Nat, k ≤ m ∧ i = .int .i64 k ∧ Hid (Below w.heap.size w wr) ∧ Hid (∀ j, j < k → Rg n p q j)) (fun i _ => m - (intOf i).toNat)
    case atStart => exact ⟨0, by omega, rfl, Below.refl _ _, fun j hj => absurd hj (by omega)⟩
    case round =>
      obtain ⟨k, hk, rfl, HBr, HA⟩ := hrel
      have hz := HBr.out.size
      by_cases hlt : k < m
      · obtain ⟨ad, rfl, hbl, c0, c1⟩ := (HR.out.below HBr.out).rec2 hlt
        have HB1 : Hid (∀ o, Below w.heap.size w (wr.alloc o)) := fun o => HBr.out.alloc hz o
        have hbl2 : (ad.add (k * 2)).block < wr.heap.size := by rw [addr_block]; omega
        by_cases g5 : p k = q k
        · have g6 : (p k == q k) = true := by simpa using g5
          have HN : Hid (¬ LkOk n m p q st mo) := Lib.hid fun h => (h.1.2 k hlt).2.2.2.2 g5
          clear g5
          (go_wp2; all_goals first | (exfalso; omega) | (go_ret; exact ⟨_, rfl, _, rfl, ⟨fun h => absurd h (by decide), fun h => absurd h HN.out⟩, HB1.out _⟩))
        · have g6 : (p k == q k) = false := by simpa using g5
          rcases (by omega : p k < q k ∨ q k < p k) with ho | ho
          · by_cases g1 : p k < 0
            · have HN : Hid (¬ LkOk n m p q st mo) := Lib.hid fun h => by have := h.1.2 k hlt; unfold Rg at this; omega
              (go_wp2; all_goals first | (exfalso; omega) | (go_ret; exact ⟨_, rfl, _, rfl, ⟨fun h => absurd h (by decide), fun h => absurd h HN.out⟩, HB1.out _⟩))
            · by_cases g2 : n ≤ q k
              · have HN : Hid (¬ LkOk n m p q st mo) := Lib.hid fun h => by have := h.1.2 k hlt; unfold Rg at this; omega
                (go_wp2; all_goals first | (exfalso; omega) | (go_ret; exact ⟨_, rfl, _, rfl, ⟨fun h => absurd h (by decide), fun h => absurd h HN.out⟩, HB1.out _⟩))
              · have HG := Lib.hid g5
                clear g5
                go_wp2
                go_roundw
                case rel =>
                  exact ⟨k + 1, by omega, by go_num, HB1.out _, fun i hi => (Nat.lt_succ_iff_lt_or_eq.1 hi).elim (HA.out i) (fun e => by subst e; exact ⟨by omega, by omega, by omega, by omega, HG.out⟩)⟩
                case measure => simp [intOf]; omega
          · by_cases g1 : q k < 0
            · have HN : Hid (¬ LkOk n m p q st mo) := Lib.hid fun h => by have := h.1.2 k hlt; unfold Rg at this; omega
              (go_wp2; all_goals first | (exfalso; omega) | (go_ret; exact ⟨_, rfl, _, rfl, ⟨fun h => absurd h (by decide), fun h => absurd h HN.out⟩, HB1.out _⟩))
            · by_cases g2 : n ≤ p k
              · have HN : Hid (¬ LkOk n m p q st mo) := Lib.hid fun h => by have := h.1.2 k hlt; unfold Rg at this; omega
                (go_wp2; all_goals first | (exfalso; omega) | (go_ret; exact ⟨_, rfl, _, rfl, ⟨fun h => absurd h (by decide), fun h => absurd h HN.out⟩, HB1.out _⟩))
              · have HG := Lib.hid g5
                clear g5
                go_wp2
                go_roundw
                case rel =>
                  exact ⟨k + 1, by omega, by go_num, HB1.out _, fun i hi => (Nat.lt_succ_iff_lt_or_eq.1 hi).elim (HA.out i) (fun e => by subst e; exact ⟨by omega, by omega, by omega, by omega, HG.out⟩)⟩
                case measure => simp [intOf]; omega
      · obtain rfl : k = m := by omega
        have HA0 := Lib.hid HA.out
        by_cases hst : 0 ≤ st ∧ st < n
        rotate_left
        · have HN : Hid (¬ LkOk n k p q st mo) := Lib.hid fun h => hst h.2.2.1
          go_wp2
          all_goals first
            | (exfalso; omega)
            | (go_ret; exact ⟨_, rfl, _, rfl, ⟨fun h => absurd h (by decide), fun h => absurd h HN.out⟩, HBr.out⟩)
        obtain ⟨hs0, hs1⟩ := hst
        go_wp2
        go_loopw [67] (fun i w2 => ∃ t : Nat, t ≤ k ∧ i = .int .i64 t ∧ Hid (Below w.heap.size w w2) ∧ Hid (∀ i, i < t → ∀ j, j < i → ¬ Sm p q i j)) (fun i _ => k - (intOf i).toNat)
        case atStart => exact ⟨0, by omega, rfl, HBr, fun j hj => absurd hj (by omega)⟩
        case round =>
          clear HBr hz
          obtain ⟨t, ht, rfl, HB2, HT⟩ := hrel
          have hz2 := HB2.out.size
          by_cases htk : t < k
          · obtain ⟨ad, rfl, hbl, c0, c1⟩ := (HR.out.below HB2.out).rec2 (show t < k by omega)
            have HB3 := Lib.hid (HB2.out.alloc hz2 (.cells #[.int .i64 (p t), .int .i64 (q t)] 32))
            have hbl2 : (ad.add (t * 2)).block < wr.heap.size := by rw [addr_block]; omega
            have HRT : Hid (∀ W, Below w.heap.size w W → Rd W w.heap.size (some ad) (t * 2) (recF2 p q)) := Lib.hid fun W hb => (HR.out.below hb).less (by omega)
            have HAL := Lib.hid (alloc2 wr (.int .i64 (p t)) (.int .i64 (q t)) 32)
            have htc : t ≤ cap := by omega
            cases ha : hasP (p t) (q t) p q t
            · cases hb : hasP (q t) (p t) p q t
              · have HHA := Lib.hid ha
                have HHB := Lib.hid hb
                have HNO : Hid (∀ j, j < t → ¬ Sm p q t j) := Lib.hid fun j hj h => by
                  have := (has_sm p q t).2 ⟨j, hj, h⟩
                  rw [ha, hb] at this
                  cases this
                clear ha hb
                go_wp2
                go_region_law (first
                  | (refine step_callV2 rfl 19 (.tmp 74) (.tmp 75) _ rfl rfl rfl eg_Cont ((contP_is false (some ad) t cap _ p q (p t) (q t) _ (by unfold maxLen; omega) HB3.out.drew.size (HRT.out _ HB3.out.drew) HHA.out).mono ?_)
                     rintro e u3 ⟨v, rfl, rfl, hw3⟩
                     refine ⟨_, rfl, ?_⟩
                     have HB4 := Lib.hid (HB3.out.drew.trans (hw3.mono HB3.out.drew.size))
                     have d0 : u3.cell? ⟨wr.heap.size, 0, none⟩ = some (.int .i64 (p t)) := (hw3.cell (by simp)).trans HAL.out.1
                     have d1 : u3.cell? ⟨wr.heap.size, 1, none⟩ = some (.int .i64 (q t)) := (hw3.cell (by simp)).trans HAL.out.2
                     clear hw3)
                  | (refine step_callV2 rfl 19 (.tmp 80) (.tmp 85) _ rfl rfl rfl eg_Cont ((contP_is false (some ad) t cap _ p q (q t) (p t) _ (by unfold maxLen; omega) HB4.out.size (HRT.out _ HB4.out) HHB.out).mono ?_)
                     rintro e u4 ⟨v, rfl, rfl, hw4⟩
                     refine ⟨_, rfl, ?_⟩
                     have HB5 := Lib.hid (HB4.out.trans (hw4.mono HB4.out.size))
                     clear hw4)
                  | fail)
                all_goals
                  go_wp2
                  go_roundw
                  case rel => exact ⟨t + 1, by omega, by go_num, HB5, fun i hi => (Nat.lt_succ_iff_lt_or_eq.1 hi).elim (HT.out i) (fun e => by subst e; exact HNO.out)⟩
                  case measure => simp [intOf]; omega
              · have HHA := Lib.hid ha
                have HHB := Lib.hid hb
                have HN : Hid (¬ LkOk n k p q st mo) := Lib.hid fun h => by
                  obtain ⟨j, hj, hs⟩ := (has_sm p q t).1 (by rw [ha, hb]; rfl)
                  exact h.2.1 t htk j hj hs
                clear ha hb
                go_wp2
                go_region_law (first
                  | (refine step_callV2 rfl 19 (.tmp 74) (.tmp 75) _ rfl rfl rfl eg_Cont ((contP_is false (some ad) t cap _ p q (p t) (q t) _ (by unfold maxLen; omega) HB3.out.drew.size (HRT.out _ HB3.out.drew) HHA.out).mono ?_)
                     rintro e u3 ⟨v, rfl, rfl, hw3⟩
                     refine ⟨_, rfl, ?_⟩
                     have HB4 := Lib.hid (HB3.out.drew.trans (hw3.mono HB3.out.drew.size))
                     have d0 : u3.cell? ⟨wr.heap.size, 0, none⟩ = some (.int .i64 (p t)) := (hw3.cell (by simp)).trans HAL.out.1
                     have d1 : u3.cell? ⟨wr.heap.size, 1, none⟩ = some (.int .i64 (q t)) := (hw3.cell (by simp)).trans HAL.out.2
                     clear hw3)
                  | (refine step_callV2 rfl 19 (.tmp 80) (.tmp 85) _ rfl rfl rfl eg_Cont ((contP_is true (some ad) t cap _ p q (q t) (p t) _ (by unfold maxLen; omega) HB4.out.size (HRT.out _ HB4.out) HHB.out).mono ?_)
                     rintro e u4 ⟨v, rfl, rfl, hw4⟩
                     refine ⟨_, rfl, ?_⟩
                     have HB5 := Lib.hid (HB4.out.trans (hw4.mono HB4.out.size))
                     clear hw4)
                  | fail)
                all_goals
                  go_wp2
                  go_ret
                  exact ⟨_, rfl, _, rfl, ⟨fun h => absurd h (by decide), fun h => absurd h HN.out⟩, HB5.out⟩
            · have HHA := Lib.hid ha
              have HN : Hid (¬ LkOk n k p q st mo) := Lib.hid fun h => by
                obtain ⟨j, hj, hs⟩ := (has_sm p q t).1 (by rw [ha]; rfl)
                exact h.2.1 t htk j hj hs
              clear ha
              go_wp2
              go_region_law (first
                | (rename_i KK hKK
                   refine step_callV2 rfl 19 (.tmp 74) (.tmp 75) _ rfl rfl rfl eg_Cont ((contP_is true (some ad) t cap _ p q (p t) (q t) _ (by unfold maxLen; omega) HB3.out.drew.size (HRT.out _ HB3.out.drew) HHA.out).mono ?_)
                   rintro e u3 ⟨v, rfl, rfl, hw3⟩
                   refine ⟨_, rfl, ?_⟩
                   have HB4 := Lib.hid (HB3.out.drew.trans (hw3.mono HB3.out.drew.size))
                   clear hw3
                   refine hKK _ _ ?_
                   clear hKK KK
                   refine wpAny_take (i := 5) (v := .bool true) rfl (by kernel_rfl) (by kernel_rfl) (by kernel_rfl) (fun _ _ _ h => h) (Or.inl ⟨by kernel_rfl, by intro w; go_simp⟩) ?_
                   refine wpAny_take (i := 6) (v := undef) rfl (by kernel_rfl) (by kernel_rfl) (by kernel_rfl) (fun _ _ _ h => h) (Or.inr ⟨by kernel_rfl, rfl⟩) ?_
                   refine wpAny_take (i := 7) (v := undef) rfl (by kernel_rfl) (by kernel_rfl) (by kernel_rfl) (fun _ _ _ h => h) (Or.inr ⟨by kernel_rfl, rfl⟩) ?_
                   refine wpAny_take (i := 8) (v := undef) rfl (by kernel_rfl) (by kernel_rfl) (by kernel_rfl) (fun _ _ _ h => h) (Or.inr ⟨by kernel_rfl, rfl⟩) ?_
                   refine wpAny_take (i := 9) (v := undef) rfl (by kernel_rfl) (by kernel_rfl) (by kernel_rfl) (fun _ _ _ h => h) (Or.inr ⟨by kernel_rfl, rfl⟩) ?_
                   refine wpAny_take (i := 10) (v := undef) rfl (by kernel_rfl) (by kernel_rfl) (by kernel_rfl) (fun _ _ _ h => h) (Or.inr ⟨by kernel_rfl, rfl⟩) ?_
                   refine wpAny_take (i := 11) (v := undef) rfl (by kernel_rfl) (by kernel_rfl) (by kernel_rfl) (fun _ _ _ h => h) (Or.inr ⟨by kernel_rfl, rfl⟩) ?_
                   refine wpAny_take (i := 12) (v := undef) rfl (by kernel_rfl) (by kernel_rfl) (by kernel_rfl) (fun _ _ _ h => h) (Or.inr ⟨by kernel_rfl, rfl⟩) ?_
                   refine wpAny_take (i := 13) (v := undef) rfl (by kernel_rfl) (by kernel_rfl) (by kernel_rfl) (fun _ _ _ h => h) (Or.inr ⟨by kernel_rfl, rfl⟩) ?_
                   refine wpAny_take (i := 14) (v := undef) rfl (by kernel_rfl) (by kernel_rfl) (by kernel_rfl) (fun _ _ _ h => h) (Or.inr ⟨by kernel_rfl, rfl⟩) ?_)
                | fail)
              all_goals
                go_wp2
                go_ret
                exact ⟨_, rfl, _, rfl, ⟨fun h => absurd h (by decide), fun h => absurd h HN.out⟩, HB4.out⟩
          · obtain rfl : t = k := by omega
            have HT0 := Lib.hid HT.out
            go_wp2
            go_ret
            exact ⟨_, rfl, _, rfl, ⟨fun _ => ⟨⟨⟨h1, h6, h15⟩, HA0.out⟩, HT0.out, ⟨hs0, hs1⟩, h60⟩, fun _ => rfl⟩, HB2.out⟩
  · have HW : Hid (¬ LkOk n m p q st mo) := Lib.hid fun h => h1 ⟨h.1.1.1, h.1.1.2.1, h.1.1.2.2, h.2.2.2⟩
    go_enter Try.func11, Try.ntmps11
    go_wp2
    all_goals first
      | (exfalso; omega)
      | (go_ret; exact ⟨_, rfl, _, rfl, ⟨fun h => absurd h (by decide), fun h => absurd h HW.out⟩, Below.refl _ _⟩)
end Go.Proofs.Ytcmbbioipbdonaa
