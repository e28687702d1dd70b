/- The document's check of crashes, walked. -/
import Derived.Test.YteocheaihbifaaaFl1
set_option linter.unusedVariables false
set_option linter.unusedSimpArgs false
namespace Go.Proofs.Yteocheaihbifaaa
open Go.RowKit

theorem shl_ne {a n : Nat} (h6 : n ≤ 6) (h : 2 ^ n ≤ a) : (2 : Int) ^ n % 4294967296 ≤ (a : Int) := by
  rw [pow_mod (show n < 32 by omega)]; exact Int.ofNat_le.2 h
theorem shl_no {a n : Nat} (h6 : n ≤ 6) (h : a < 2 ^ n) : (a : Int) < (2 : Int) ^ n % 4294967296 := by
  rw [pow_mod (show n < 32 by omega)]; exact Int.ofNat_lt.2 h
set_option maxRecDepth 100000 in
set_option maxHeartbeats 1600000 in
theorem check_any (A0 : Option Addr) (n cap0 : Nat) (A : Option Addr) (m cap B : Nat) (R : Int) (p r : Nat → Int) (q : Nat → Nat) (w : World) (hm : m ≤ cap ∧ cap ≤ maxLen) (hB : B ≤ w.heap.size) (hn : n ≤ maxLen) (hr : Rd w B A (m * 3) (crF p r (fun i => (q i : Nat)))) :
    Calls Try.prog 7 #[.slice A0 n cap0, .slice A m cap, .int .i64 R] w fun e w' => e = .returned (.int .i64 (crCode n m R p r q)) ∧ Below w.heap.size w w' := by
  obtain ⟨hmc, hcm⟩ := hm
  unfold maxLen at hcm hn
  have HR := Lib.hid (hr.more hB); clear hr hB
  by_cases hs : crSize n R
  · have HS := Lib.hid hs
    obtain ⟨⟨h1, h6⟩, hR0, hR8⟩ := hs
    go_enter Try.func7, Try.ntmps7
    go_wp2
    go_loopw [32] (fun i wr => ∃ j : Nat, j ≤ m ∧ i = .int .i64 j ∧ Hid (∀ t, t < j → crP n p t = false) ∧ Hid (Below w.heap.size w wr)) (fun i _ => m - (intOf i).toNat)
    case atStart => exact ⟨0, by omega, rfl, fun j hj => absurd hj (by omega), Below.refl _ _⟩
    case round =>
      obtain ⟨j, hk, rfl, HA, HW⟩ := hrel
      by_cases hlt : j < m
      · obtain ⟨ad, rfl, _, c0, c1, c2⟩ := (HR.out.below HW.out).crs hlt
        have HW1 : Hid (∀ o, Below w.heap.size w (wr.alloc o)) := fun o => HW.out.alloc HW.out.size o
        by_cases hp : p j < 0 ∨ (n : Int) ≤ p j
        · have HK := Lib.hid (crCode_P (m := m) (r := r) (q := q) HS.out hlt (by simp only [crP]; exact decide_eq_true hp))
          go_wp2
          all_goals first | (go_ret; exact ⟨ret_int HK.out.symm, HW1.out _⟩) | (exfalso; omega)
        · have HQ : Hid (crP n p j = false) := by show crP n p j = false; simp only [crP]; exact decide_eq_false hp
          have hp1 : 0 ≤ p j := by omega
          have hp2 : p j < n := by omega
          clear hp
          go_wp2
          go_roundw
          case rel => exact ⟨j + 1, by omega, by go_num, snoc_all HA.out HQ.out, HW1.out _⟩
          case measure => simp [intOf]; omega
      · obtain rfl : j = m := by omega
        go_wp2
        go_loopw [48] (fun i wr => ∃ k : Nat, k ≤ j ∧ i = .int .i64 k ∧ Hid (∀ t, t < k → crR n R r q t = false) ∧ Hid (Below w.heap.size w wr)) (fun i _ => j - (intOf i).toNat)
        case atStart => exact ⟨0, by omega, rfl, fun j hj => absurd hj (by omega), HW.out⟩
        case round =>
          clear HW
          obtain ⟨k, hk2, rfl, HA2, HW⟩ := hrel
          by_cases hlt : k < j
          · obtain ⟨ad, rfl, _, c0, c1, c2⟩ := (HR.out.below HW.out).crs hlt
            have HW1 : Hid (∀ o, Below w.heap.size w (‹World›.alloc o)) := fun o => HW.out.alloc HW.out.size o
            by_cases hp : r k < 1 ∨ R < r k ∨ 2 ^ n ≤ q k
            · have HK := Lib.hid (crCode_R HS.out HA.out hlt (by simp only [crR]; exact decide_eq_true hp))
              by_cases hp1 : r k < 1 ∨ R < r k
              · clear hp
                go_wp2
                all_goals first | (go_ret; exact ⟨ret_int HK.out.symm, HW1.out _⟩) | (exfalso; omega)
              · have hq := shl_ne h6 (by omega : 2 ^ n ≤ q k)
                have hp2 : 1 ≤ r k := by omega
                have hp3 : r k ≤ R := by omega
                clear hp hp1
                go_wp2
                all_goals first | (go_ret; exact ⟨ret_int HK.out.symm, HW1.out _⟩) | (exfalso; omega)
            · have HQ : Hid (crR n R r q k = false) := by show crR n R r q k = false; simp only [crR]; exact decide_eq_false hp
              have hp1 : 1 ≤ r k := by omega
              have hp2 : r k ≤ R := by omega
              have hq := shl_no h6 (by omega : q k < 2 ^ n)
              clear hp
              go_wp2
              go_roundw
              case rel => exact ⟨k + 1, by omega, by go_num, snoc_all HA2.out HQ.out, HW1.out _⟩
              case measure => simp [intOf]; omega
          · obtain rfl : k = j := by omega
            go_wp2
            go_loopw [12] (fun i wr => ∃ l : Nat, l ≤ k ∧ i = .int .i64 l ∧ Hid (∀ t, t < l → crT p t = false) ∧ Hid (Below w.heap.size w wr)) (fun i _ => k - (intOf i).toNat)
            case atStart => exact ⟨0, by omega, rfl, fun j hj => absurd hj (by omega), HW.out⟩
            case round =>
              clear HW
              obtain ⟨l, hk3, rfl, HA3, HW⟩ := hrel
              by_cases hlt : l < k
              · obtain ⟨ad, rfl, _, c0, _, _⟩ := (HR.out.below HW.out).crs hlt
                go_wp2
                go_loopw [13] (fun i wr => ∃ t : Nat, t ≤ l ∧ i = .int .i64 t ∧ Hid (∀ x, x < t → (fun j => p j == p l) x = false) ∧ Hid (Below w.heap.size w wr)) (fun i _ => l - (intOf i).toNat)
                case atStart => exact ⟨0, by omega, rfl, fun j hj => absurd hj (by omega), HW.out⟩
                case round =>
                  clear HW
                  obtain ⟨t, hk4, rfl, HA4, HW⟩ := hrel
                  by_cases hlt2 : t < l
                  · obtain ⟨ad1, e1, _, c0, _, _⟩ := (HR.out.below HW.out).crs hlt
                    obtain ⟨ad2, e2, _, d0, _, _⟩ := (HR.out.below HW.out).crs (Nat.lt_trans hlt2 hlt)
                    injection e1 with e1
                    subst e1
                    injection e2 with e2
                    subst e2
                    cases hq : (p l == p t)
                    · have HQ : Hid ((fun j => p j == p l) t = false) := by show (p t == p l) = false; rw [beq_eq_false_iff_ne] at hq ⊢; exact fun e => hq e.symm
                      go_wp2
                      refine wp_text_all (by kernel_rfl) (by kernel_rfl) (by kernel_rfl) (by repeat' (first | (with_reducible apply tame_then) | (with_reducible apply tame_block) | (with_reducible apply tame_scope) | exact tame_gives | exact tame_body (fun _ _ h => ⟨_, h.1⟩))) ?_
                      go_wp2
                      refine headed ?_
                      go_wp2
                      go_roundw
                      case rel => exact ⟨t + 1, by omega, by go_num, snoc_all HA4.out HQ.out, below_sim HW.out ⟨rfl, rfl, rfl, rfl⟩⟩
                      case measure => simp [intOf]; omega
                    · have HQ : Hid (crT p l = true) := anyTo_iff.2 ⟨t, hlt2, by rw [beq_iff_eq] at hq ⊢; exact hq.symm⟩
                      have HK := Lib.hid (crCode_T HS.out HA.out HA2.out hlt HQ.out)
                      go_wp2
                      refine wp_text_all (by kernel_rfl) (by kernel_rfl) (by kernel_rfl) (by repeat' (first | (with_reducible apply tame_then) | (with_reducible apply tame_block) | (with_reducible apply tame_scope) | exact tame_gives | exact tame_body (fun _ _ h => ⟨_, h.1⟩))) ?_
                      go_wp2
                      refine headed ?_
                      go_wp2
                      go_ret
                      exact ⟨ret_int HK.out.symm, below_sim HW.out ⟨rfl, rfl, rfl, rfl⟩⟩
                  · obtain rfl : t = l := by omega
                    have HQ : Hid (crT p t = false) := anyTo_no.2 HA4.out
                    go_wp2
                    go_roundw
                    case rel => exact ⟨t + 1, by omega, by go_num, snoc_all HA3.out HQ.out, HW.out⟩
                    case measure => simp [intOf]; omega
              · obtain rfl : l = k := by omega
                have HK := Lib.hid (crCode_0 HS.out HA.out HA2.out HA3.out)
                go_wp2
                go_ret
                exact ⟨ret_int HK.out.symm, HW.out⟩
  · have HK := Lib.hid (crCode_size (m := m) (p := p) (r := r) (q := q) hs)
    have hs' : n < 1 ∨ 6 < n ∨ R < 0 ∨ 8 < R := by unfold crSize at hs; omega
    clear hs
    go_enter Try.func7, Try.ntmps7
    go_wp2
    all_goals first | (go_ret; exact ⟨ret_int HK.out.symm, Below.refl _ _⟩) | (exfalso; omega)
end Go.Proofs.Yteocheaihbifaaa
