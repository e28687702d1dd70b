/- The walks of TreeCheck and treed. -/
import Derived.Test.YtihkbkbbllmliaaTkRoot2
set_option linter.unusedVariables false
set_option linter.unusedSimpArgs false
namespace Go.Proofs.Ytihkbkbbllmliaa
open Go.RowKit

def TreeC (n : Nat) (u : Nat → Int) (c : Int) : Prop := c = 0 ↔ TreeOk n u
set_option maxRecDepth 100000 in
set_option maxHeartbeats 1600000 in
theorem treeCheck_any (A : Option Addr) (n cap B : Nat) (u : Nat → Int) (w : World) (hn : n ≤ 6) (hr : Rd w B A n (fun j => .int .i64 (u j))) :
    Calls Try.prog 22 #[.slice A n cap] w fun e w' => ∃ c : Int, e = .returned (.int .i64 c) ∧ TreeC n u c ∧ w = w' := by
  have HR := Lib.hid hr; clear hr
  go_enter Try.func22, Try.ntmps22
  go_wp2
  go_loopw [11] (fun i wr => ∃ k : Nat, k ≤ n ∧ i = .int .i64 k ∧ Hid (∀ j, j < k → outB n (u j) = false) ∧ wr = w) (fun i _ => n - (intOf i).toNat)
  case atStart => exact ⟨0, by omega, rfl, Lib.hid (fun j hj => absurd hj (by omega)), rfl⟩
  case round =>
    obtain ⟨k, hk, rfl, HA, rfl⟩ := hrel
    by_cases hlt : k < n
    · obtain ⟨ad, rfl, _, hc⟩ := HR.out (by omega)
      have hck : wr.cell? (ad.add k) = some (.int .i64 (u k)) := hc k hlt
      clear hc
      by_cases h0 : u k < 0
      · have HN : Hid (¬ TreeOk n u) := Lib.hid fun ht => by have := ht.ins k hlt; omega
        go_wp2
        go_ret
        exact ⟨_, rfl, ⟨fun h => absurd h (by decide), fun h => absurd h HN.out⟩, rfl⟩
      · by_cases h1 : (n : Int) ≤ u k
        · have HN : Hid (¬ TreeOk n u) := Lib.hid fun ht => by have := ht.ins k hlt; omega
          go_wp2
          go_ret
          exact ⟨_, rfl, ⟨fun h => absurd h (by decide), fun h => absurd h HN.out⟩, rfl⟩
        · have HK : Hid (outB n (u k) = false) := Lib.hid (by unfold outB; simp; omega)
          go_wp2
          go_roundw
          case rel => exact ⟨k + 1, by omega, by go_num, Lib.hid (fun j hj => (Nat.lt_succ_iff_lt_or_eq.1 hj).elim (HA.out j) (fun e => by subst e; exact HK.out)), by first | rfl | trivial⟩
          case measure => simp [intOf]; omega
    · obtain rfl : k = n := by omega
      have HIN := Lib.hid (allIn_of (anyTo_no.2 HA.out))
      clear HA
      go_wp2
      go_loopw [5, 26] (fun rv iv wr2 => ∃ i : Nat, i ≤ k ∧ iv = .int .i64 (i : Nat) ∧ rv = .int .i64 ((rootsL (vN u) i).length : Nat) ∧ Hid (∀ j, j < i → vN u (itv (vN u) k j) = itv (vN u) k j) ∧ wr2 = wr) (fun _ iv _ => k - (intOf iv).toNat)
      case atStart => exact ⟨0, by omega, rfl, rfl, Lib.hid (fun j hj => absurd hj (by omega)), rfl⟩
      case round =>
        obtain ⟨i, hi, rfl, rfl, HU, rfl⟩ := hrel
        have hlr : (rootsL (vN u) i).length ≤ i := by
          unfold rootsL
          exact Nat.le_trans (List.length_filter_le _ _) (by simp)
        have HNX := Lib.hid (rootsL_next (vN u) i)
        by_cases hik : i < k
        · obtain ⟨ad, rfl, _, hc⟩ := HR.out (by omega)
          have HC := Lib.hid hc
          have hci : _ = some (Value.int .i64 (u i)) := hc i hik
          rw [vN_int HIN.out hik] at hci
          clear hc
          have hcase : ∃ ll : Nat, ll ≤ i + 1 ∧ Hid ((rootsL (vN u) (i + 1)).length = ll) ∧ ((vN u i = i ∧ ll = (rootsL (vN u) i).length + 1) ∨ (vN u i ≠ i ∧ ll = (rootsL (vN u) i).length)) := by
            by_cases he : vN u i = i
            · exact ⟨_, by omega, Lib.hid (by rw [HNX.out, if_pos he, List.length_append]; rfl), .inl ⟨he, rfl⟩⟩
            · exact ⟨_, by omega, Lib.hid (by rw [HNX.out, if_neg he]), .inr ⟨he, rfl⟩⟩
          obtain ⟨ll, hll, HLL, hcase⟩ := hcase
          clear HNX
          generalize (rootsL (vN u) i).length = l0 at hlr hcase ⊢
          generalize hvi : vN u i = vi at hci hcase
          have HVI := Lib.hid hvi
          clear hvi
          rcases hcase with ⟨he, hl⟩ | ⟨he, hl⟩
          · have he := he.symm
            subst he
            have hl : (ll : Int) = (l0 : Int) + 1 := by omega
            go_wp2
            rw [← hl]
            go_loopw [6, 8] (fun xv mv wr3 => ∃ m : Nat, m ≤ k ∧ mv = .int .i64 (m : Nat) ∧ xv = .int .i64 (itv (vN u) m i : Nat) ∧ wr3 = wr) (fun _ mv _ => k - (intOf mv).toNat)
            case atStart => exact ⟨0, by omega, rfl, rfl, rfl⟩
            case round =>
              obtain ⟨m, hm, rfl, rfl, rfl⟩ := hrel
              have hx := itv_lt HIN.out hik m
              have hcx : _ = some (Value.int .i64 (u (itv (vN u) m i))) := HC.out _ hx
              rw [vN_int HIN.out hx] at hcx
              clear hci
              by_cases hmk : m < k
              · have HNX : Hid (itv (vN u) (m + 1) i = vN u (itv (vN u) m i)) := Lib.hid rfl
                generalize itv (vN u) m i = x at hx hcx HNX ⊢
                go_wp2
                go_roundw
                case rel => exact ⟨m + 1, by omega, by go_num, by rw [HNX.out], by first | rfl | trivial⟩
                case measure => simp [intOf]; omega
              · obtain rfl : m = k := by omega
                by_cases hf : vN u (itv (vN u) m i) = itv (vN u) m i
                · have HF := Lib.hid hf
                  rw [hf] at hcx
                  clear hf
                  have HU2 : Hid (∀ j, j < i + 1 → vN u (itv (vN u) m j) = itv (vN u) m j) := Lib.hid (fun j hj => (Nat.lt_succ_iff_lt_or_eq.1 hj).elim (HU.out j) (fun e => by subst e; exact HF.out))
                  clear HF HU
                  generalize itv (vN u) m i = x at hx hcx ⊢
                  go_wp2
                  go_roundw
                  case rel => exact ⟨i + 1, by omega, by go_num, by rw [HLL.out], HU2, by first | rfl | trivial⟩
                  case measure => simp [intOf]; omega
                · have HN : Hid (¬ TreeOk m u) := Lib.hid fun ht => hf (ht.up i hik)
                  generalize itv (vN u) m i = x at hx hcx hf ⊢
                  have e9 : ((vN u x : Int) != (x : Int)) = true := by rw [bne_iff_ne]; omega
                  generalize vN u x = y at hcx e9 hf
                  clear hf
                  go_wp2
                  go_ret
                  exact ⟨_, rfl, ⟨fun h => absurd h (by decide), fun h => absurd h HN.out⟩, rfl⟩
          · subst hl
            have e1 : ((i : Int) == (vi : Int)) = false := by rw [beq_eq_false_iff_ne]; omega
            go_wp2
            go_loopw [6, 8] (fun xv mv wr3 => ∃ m : Nat, m ≤ k ∧ mv = .int .i64 (m : Nat) ∧ xv = .int .i64 (itv (vN u) m i : Nat) ∧ wr3 = wr) (fun _ mv _ => k - (intOf mv).toNat)
            case atStart => exact ⟨0, by omega, rfl, rfl, rfl⟩
            case round =>
              obtain ⟨m, hm, rfl, rfl, rfl⟩ := hrel
              have hx := itv_lt HIN.out hik m
              have hcx : _ = some (Value.int .i64 (u (itv (vN u) m i))) := HC.out _ hx
              rw [vN_int HIN.out hx] at hcx
              clear hci
              by_cases hmk : m < k
              · have HNX : Hid (itv (vN u) (m + 1) i = vN u (itv (vN u) m i)) := Lib.hid rfl
                generalize itv (vN u) m i = x at hx hcx HNX ⊢
                go_wp2
                go_roundw
                case rel => exact ⟨m + 1, by omega, by go_num, by rw [HNX.out], by first | rfl | trivial⟩
                case measure => simp [intOf]; omega
              · obtain rfl : m = k := by omega
                by_cases hf : vN u (itv (vN u) m i) = itv (vN u) m i
                · have HF := Lib.hid hf
                  rw [hf] at hcx
                  clear hf
                  have HU2 : Hid (∀ j, j < i + 1 → vN u (itv (vN u) m j) = itv (vN u) m j) := Lib.hid (fun j hj => (Nat.lt_succ_iff_lt_or_eq.1 hj).elim (HU.out j) (fun e => by subst e; exact HF.out))
                  clear HF HU
                  generalize itv (vN u) m i = x at hx hcx ⊢
                  go_wp2
                  go_roundw
                  case rel => exact ⟨i + 1, by omega, by go_num, by rw [HLL.out], HU2, by first | rfl | trivial⟩
                  case measure => simp [intOf]; omega
                · have HN : Hid (¬ TreeOk m u) := Lib.hid fun ht => hf (ht.up i hik)
                  generalize itv (vN u) m i = x at hx hcx hf ⊢
                  have e9 : ((vN u x : Int) != (x : Int)) = true := by rw [bne_iff_ne]; omega
                  generalize vN u x = y at hcx e9 hf
                  clear hf
                  go_wp2
                  go_ret
                  exact ⟨_, rfl, ⟨fun h => absurd h (by decide), fun h => absurd h HN.out⟩, rfl⟩
        · obtain rfl : i = k := by omega
          clear HNX
          by_cases h1 : (rootsL (vN u) i).length = 1
          · have HT : Hid (TreeOk i u) := Lib.hid ⟨HIN.out, h1, HU.out⟩
            rw [h1]
            go_wp2
            go_ret
            exact ⟨_, rfl, ⟨fun _ => HT.out, fun _ => rfl⟩, rfl⟩
          · have HN : Hid (¬ TreeOk i u) := Lib.hid fun ht => h1 ht.one
            have e1 : (((rootsL (vN u) i).length : Int) != 1) = true := by rw [bne_iff_ne]; omega
            generalize (rootsL (vN u) i).length = ll at e1 hlr ⊢
            go_wp2
            go_ret
            exact ⟨_, rfl, ⟨fun h => absurd h (by decide), fun h => absurd h HN.out⟩, rfl⟩
theorem treed_any (A : Option Addr) (n cap B m : Nat) (u : Nat → Int) (w : World) (hm : n ≤ maxLen) (hr : Rd w B A n (fun j => .int .i64 (u j))) :
    Calls Try.prog 14 #[.slice A n cap, .int .i64 m] w fun e w' => ∃ b : Bool, e = .returned (.bool b) ∧ (b = true ↔ playedB n m = true ∧ TreeOk n u) ∧ w = w' := by
  have HR := Lib.hid hr; clear hr
  unfold maxLen at hm
  cases hp : playedB n m
  · have HP := Lib.hid hp; clear hp
    go_enter Try.func14, Try.ntmps14
    go_wp2_with (go_at_call 10; refine (bool_is (played_any n m _) HP.out).mono ?_; rintro e w3 ⟨rfl, rfl⟩)
    go_ret
    exact ⟨_, rfl, by simp, rfl⟩
  · have HP := Lib.hid hp
    obtain ⟨h1, h2, h3⟩ := playedB_iff.1 hp
    clear hp
    go_enter Try.func14, Try.ntmps14
    go_wp2_with (go_at_call 10; refine (bool_is (played_any n m _) HP.out).mono ?_; rintro e w3 ⟨rfl, rfl⟩)
    refine (treeCheck_any A n cap B u w (by omega) HR.out).mono ?_
    rintro e w1 ⟨c, rfl, hc, rfl⟩
    have HC := Lib.hid hc
    clear hc
    go_wp2
    go_ret
    exact ⟨_, rfl, by rw [beq_iff_eq]; simp only [true_and]; exact HC.out, rfl⟩
end Go.Proofs.Ytihkbkbbllmliaa
