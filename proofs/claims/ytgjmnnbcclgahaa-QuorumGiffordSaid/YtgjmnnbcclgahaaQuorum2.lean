/- The walks of the two tests of coteries. -/
import Derived.Test.YtgjmnnbcclgahaaQuorumMore
import Derived.Deep.QuietTactic
import Derived.BigQuiet
set_option linter.unusedVariables false
set_option linter.unusedSimpArgs false
namespace Go.Proofs.Ytgjmnnbcclgahaa
open Go.RowKit

def andZ (a b : Nat) : Bool := bits .and .u32 (a : Int) (b : Int) == 0
def pairBad (a b : Nat) : Bool := andZ a b || sub32 a b || sub32 b a
def rowBad (f : Nat → Nat) (i : Nat) : Bool := anyTo (fun j => pairBad (f i) (f j)) i
def meetB (f : Nat → Nat) (m : Nat) : Bool := !anyTo (fun i => rowBad f i) m
theorem meetB_no {f : Nat → Nat} {m i j : Nat} (hi : i < m) (hj : j < i) (h : pairBad (f i) (f j) = true) : meetB f m = false := by
  have : anyTo (fun i => rowBad f i) m = true := anyTo_iff.2 ⟨i, hi, anyTo_iff.2 ⟨j, hj, h⟩⟩
  simp [meetB, this]
theorem meetB_yes {f : Nat → Nat} {m : Nat} (h : ∀ i, i < m → rowBad f i = false) : meetB f m = true := by
  have : anyTo (fun i => rowBad f i) m = false := anyTo_no.2 h
  simp [meetB, this]

set_option maxHeartbeats 800000 in
theorem meet_any (A : Option Addr) (m cap B : Nat) (f : Nat → Nat) (w : World) (hm : m ≤ maxLen) (hmc : m ≤ cap) (hr : Rd w B A m (fun j => .int .u32 (f j : Nat))) :
    Calls Try.prog 32 #[.slice A m cap] w fun e w' => e = .returned (.bool (meetB f m)) ∧ w = w' := by
  unfold maxLen at hm
  have HR := Lib.hid hr; clear hr
  go_enter Try.func32, Try.ntmps32
  go_wp2
  go_loop [9] (fun i => ∃ k : Nat, k ≤ m ∧ i = .int .i64 k ∧ ∀ j, j < k → rowBad f j = false) (fun i => m - (intOf i).toNat)
  case atStart => exact ⟨0, by omega, rfl, fun j hj => absurd hj (by omega)⟩
  case round =>
    obtain ⟨k, hk, rfl, hall⟩ := hrel
    have HA := Lib.hid hall; clear hall
    by_cases hlt : k < m
    · obtain ⟨ad, rfl, _, hc⟩ := HR.out (by omega)
      have hck := hc k hlt
      have HC := Lib.hid hc; clear hc
      go_wp2
      go_loop [18] (fun i => ∃ j : Nat, j ≤ k ∧ i = .int .i64 j ∧ ∀ l, l < j → pairBad (f k) (f l) = false) (fun i => k - (intOf i).toNat)
      case atStart => exact ⟨0, by omega, rfl, fun j hj => absurd hj (by omega)⟩
      case round =>
        obtain ⟨j, hj, rfl, hall⟩ := hrel
        have HA2 := Lib.hid hall; clear hall
        by_cases hlt2 : j < k
        · have hcj := HC.out j (by omega)
          have HP : Hid (pairBad (f k) (f j) = (andZ (f k) (f j) || sub32 (f k) (f j) || sub32 (f j) (f k))) := rfl
          clear hck
          cases h1 : (bits .and .u32 (f k : Int) (f j : Int) == 0)
          · cases h2 : (bits .andNot .u32 (f k : Int) (f j : Int) == 0)
            · cases h3 : (bits .andNot .u32 (f j : Int) (f k : Int) == 0)
              · have HN : Hid (pairBad (f k) (f j) = false) := by rw [HP.out, andZ, sub32, sub32, h1, h2, h3]; rfl
                go_wp2
                go_round
                case rel => exact ⟨j + 1, by omega, by go_num, fun l hl => (Nat.lt_succ_iff_lt_or_eq.1 hl).elim (HA2.out l) (fun e => by subst e; exact HN.out)⟩
                case measure => simp [intOf]; omega
              · have HN : Hid (pairBad (f k) (f j) = true) := by rw [HP.out, andZ, sub32, sub32, h1, h2, h3]; rfl
                go_wp2
                go_ret
                exact ⟨ret_bool (meetB_no hlt hlt2 HN.out).symm, rfl⟩
            · have HN : Hid (pairBad (f k) (f j) = true) := by rw [HP.out, andZ, sub32, sub32, h1, h2]; rfl
              go_wp2
              go_ret
              exact ⟨ret_bool (meetB_no hlt hlt2 HN.out).symm, rfl⟩
          · have HN : Hid (pairBad (f k) (f j) = true) := by rw [HP.out, andZ, h1]; rfl
            go_wp2
            go_ret
            exact ⟨ret_bool (meetB_no hlt hlt2 HN.out).symm, rfl⟩
        · obtain rfl : j = k := by omega
          go_wp2
          go_round
          case rel => exact ⟨j + 1, by omega, by go_num, fun l hl => (Nat.lt_succ_iff_lt_or_eq.1 hl).elim (HA.out l) (fun e => by subst e; exact anyTo_no.2 HA2.out)⟩
          case measure => simp [intOf]; omega
    · obtain rfl : k = m := by omega
      go_wp2
      go_ret
      exact ⟨ret_bool (meetB_yes HA.out).symm, rfl⟩

def orEq (a b : Nat) : Bool := bits .or .u32 (a : Int) (b : Int) == (b : Int)
def refBad (f : Nat → Nat) (i j : Nat) : Bool := i != j && (andZ (f i) (f j) || orEq (f i) (f j))
def refMeetB (f : Nat → Nat) (m : Nat) : Bool := !anyTo (fun i => anyTo (fun j => refBad f i j) m) m
theorem refMeetB_no {f : Nat → Nat} {m i j : Nat} (hi : i < m) (hj : j < m) (h : refBad f i j = true) : refMeetB f m = false := by
  have : anyTo (fun i => anyTo (fun j => refBad f i j) m) m = true := anyTo_iff.2 ⟨i, hi, anyTo_iff.2 ⟨j, hj, h⟩⟩
  simp [refMeetB, this]
theorem refMeetB_yes {f : Nat → Nat} {m : Nat} (h : ∀ i, i < m → anyTo (fun j => refBad f i j) m = false) : refMeetB f m = true := by
  have : anyTo (fun i => anyTo (fun j => refBad f i j) m) m = false := anyTo_no.2 h
  simp [refMeetB, this]

set_option maxHeartbeats 1600000 in
theorem refMeet_any (A : Option Addr) (m cap B : Nat) (f : Nat → Nat) (w : World) (hB : B ≤ w.heap.size) (hm : m ≤ maxLen) (hr : Rd w B A m (fun j => .int .u32 (f j : Nat))) :
    Calls Try.prog 34 #[.slice A m cap] w fun e w' => e = .returned (.bool (refMeetB f m)) ∧ Below w.heap.size w w' := by
  unfold maxLen at hm
  have HR := Lib.hid hr; clear hr
  go_enter Try.func34, Try.ntmps34
  go_wp2
  go_loopw [3] (fun i wr => ∃ k : Nat, k ≤ m ∧ i = .int .i64 k ∧ Hid (Below w.heap.size w wr) ∧ Hid (∀ j, j < k → anyTo (fun l => refBad f j l) m = false)) (fun i _ => m - (intOf i).toNat)
  case atStart => exact ⟨0, by omega, rfl, Below.refl _ _, fun j hj => absurd hj (by omega)⟩
  case round =>
    obtain ⟨k, hk, rfl, HBr, HA⟩ := hrel
    by_cases hlt : k < m
    · obtain ⟨ad, rfl, hbl, hc⟩ := HR.out (by omega)
      have HC := Lib.hid hc; clear hc
      go_wp2
      obtain ⟨wo, rfl⟩ : ∃ wo : World, wo = wr := ⟨_, rfl⟩
      go_loopw [4] (fun i wr => ∃ j : Nat, j ≤ m ∧ i = .int .i64 j ∧ Hid (Below w.heap.size w wr) ∧ Hid (∀ l, l < j → refBad f k l = false)) (fun i _ => m - (intOf i).toNat)
      case atStart => exact ⟨0, by omega, rfl, HBr, fun j hj => absurd hj (by omega)⟩
      case round =>
        obtain ⟨j, hj, rfl, HBi, HA2⟩ := hrel
        by_cases hlt2 : j < m
        · have hck := (HBi.out.cell (p := ad.add k) (by rw [addr_block]; omega)).trans (HC.out k hlt)
          have hcj := (HBi.out.cell (p := ad.add j) (by rw [addr_block]; omega)).trans (HC.out j hlt2)
          by_cases hkj : k = j
          · have HN : Hid (refBad f k j = false) := by show refBad f k j = false; simp [refBad, hkj]
            subst hkj
            have heq : ((k : Int) != (k : Int)) = false := by simp
            go_wp2
            go_quiet (fail)
            go_wp2
            go_roundw
            case rel => exact ⟨k + 1, by omega, by go_num, HBi.out.trans ⟨rfl, rfl, rfl, Nat.le_refl _, fun _ _ => rfl⟩, fun l hl => (Nat.lt_succ_iff_lt_or_eq.1 hl).elim (HA2.out l) (fun e => by subst e; exact HN.out)⟩
            case measure => simp [intOf]; omega
          · have hne : ((k : Int) != (j : Int)) = true := by rw [bne_iff_ne]; omega
            have HKJ := Lib.hid hkj; clear hkj
            cases h1 : (bits .and .u32 (f k : Int) (f j : Int) == 0)
            · cases h2 : (bits .or .u32 (f k : Int) (f j : Int) == (f j : Int))
              · have HN : Hid (refBad f k j = false) := by show refBad f k j = false; rw [refBad, andZ, orEq, h1, h2]; simp
                go_wp2
                go_quiet (fail)
                go_wp2
                go_roundw
                case rel => exact ⟨j + 1, by omega, by go_num, HBi.out.trans ⟨rfl, rfl, rfl, Nat.le_refl _, fun _ _ => rfl⟩, fun l hl => (Nat.lt_succ_iff_lt_or_eq.1 hl).elim (HA2.out l) (fun e => by subst e; exact HN.out)⟩
                case measure => simp [intOf]; omega
              · have HN : Hid (refBad f k j = true) := by show refBad f k j = true; rw [refBad, andZ, orEq, h1, h2]; simp [HKJ.out]
                go_wp2
                go_quiet (fail)
                go_wp2
                go_ret
                exact ⟨ret_bool (refMeetB_no hlt hlt2 HN.out).symm, HBi.out.trans ⟨rfl, rfl, rfl, Nat.le_refl _, fun _ _ => rfl⟩⟩
            · have HN : Hid (refBad f k j = true) := by show refBad f k j = true; rw [refBad, andZ, h1]; simp [HKJ.out]
              go_wp2
              go_quiet (fail)
              go_wp2
              go_ret
              exact ⟨ret_bool (refMeetB_no hlt hlt2 HN.out).symm, HBi.out.trans ⟨rfl, rfl, rfl, Nat.le_refl _, fun _ _ => rfl⟩⟩
        · obtain rfl : j = m := by omega
          go_wp2
          go_roundw
          case rel => exact ⟨k + 1, by omega, by go_num, HBi, fun l hl => (Nat.lt_succ_iff_lt_or_eq.1 hl).elim (HA.out l) (fun e => by subst e; exact anyTo_no.2 HA2.out)⟩
          case measure => simp [intOf]; omega
    · obtain rfl : k = m := by omega
      go_wp2
      go_ret
      exact ⟨ret_bool (refMeetB_yes HA.out).symm, HBr.out⟩
end Go.Proofs.Ytgjmnnbcclgahaa
