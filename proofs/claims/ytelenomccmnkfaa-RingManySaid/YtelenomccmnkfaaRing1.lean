/- The walks of RingCheck, ringed, ring.wrong, slices.Max. -/
import Derived.Test.YtelenomccmnkfaaRingMath
import Derived.Test.YtelenomccmnkfaaContI
import Derived.Test.YtelenomccmnkfaaHas
import Derived.Test.YtelenomccmnkfaaText
import Derived.Test.YtelenomccmnkfaaHeap
import Derived.Deep.QuietTactic
import Derived.BigQuiet
set_option linter.unusedVariables false
set_option linter.unusedSimpArgs false
namespace Go.Proofs.Ytelenomccmnkfaa
open Go.RowKit

def dupAt (f : Nat → Int) (i : Nat) : Bool := anyTo (fun j => f i == f j) i
def ringCode (f : Nat → Int) (n : Nat) : Int := if n < 1 ∨ 12 < n then 1 else if anyTo (dupAt f) n then 3 else 0
theorem dupAt_no {f : Nat → Int} {i : Nat} : dupAt f i = false ↔ ∀ j, j < i → f i ≠ f j := by
  rw [dupAt, anyTo_no]; simp
theorem ringCode_zero {f : Nat → Int} {n : Nat} : ringCode f n = 0 ↔ RingOk f n := by
  unfold ringCode
  constructor
  · intro h
    split at h
    · simp at h
    · split at h
      · simp at h
      · rename_i h1 h2
        have h2 := anyTo_no.1 (Bool.not_eq_true _ ▸ h2)
        exact ⟨by omega, fun i j hi hj => dupAt_no.1 (h2 i hi) j hj⟩
  · intro h
    have h1 := h.sz
    rw [if_neg (by omega), if_neg]
    rw [Bool.not_eq_true, anyTo_no]
    exact fun i hi => dupAt_no.2 fun j hj => h.inj i j hi hj
theorem ringCode_size {f : Nat → Int} {n : Nat} (h : n < 1 ∨ 12 < n) : ringCode f n = 1 := if_pos h
theorem ringCode_dup {f : Nat → Int} {n i : Nat} (h1 : 1 ≤ n) (h12 : n ≤ 12) (hi : i < n) (h : dupAt f i = true) : ringCode f n = 3 := by
  unfold ringCode
  rw [if_neg (by omega), if_pos (anyTo_iff.2 ⟨i, hi, h⟩)]
theorem ringCode_good {f : Nat → Int} {n : Nat} (h1 : 1 ≤ n) (h12 : n ≤ 12) (h : ∀ i, i < n → dupAt f i = false) : ringCode f n = 0 := by
  unfold ringCode
  rw [if_neg (by omega), if_neg (by rw [Bool.not_eq_true, anyTo_no]; exact h)]

set_option maxRecDepth 100000 in
set_option maxHeartbeats 1600000 in
theorem refRing_any (A : Option Addr) (n cap B : Nat) (f : Nat → Int) (w : World) (hm : n ≤ maxLen) (hr : Rd w B A n (fun j => .int .i64 (f j))) :
    Calls Try.prog 16 #[.slice A n cap] w fun e w' => e = .returned (.int .i64 (ringCode f n)) ∧ Sim w w' := by
  unfold maxLen at hm
  have HR := Lib.hid hr; clear hr
  by_cases hs : 1 ≤ n ∧ n ≤ 12
  · obtain ⟨h1, h12⟩ := hs
    go_enter Try.func16, Try.ntmps16
    go_wp2
    go_loopw [3] (fun i wr => ∃ k : Nat, k ≤ n ∧ i = .int .i64 k ∧ Hid (∀ j, j < k → dupAt f j = false) ∧ Hid (Sim w wr)) (fun i _ => n - (intOf i).toNat)
    case atStart => exact ⟨0, by omega, rfl, fun j hj => absurd hj (by omega), rfl, rfl, rfl, rfl⟩
    case round =>
      obtain ⟨k, hk, rfl, HA, HS⟩ := hrel
      by_cases hlt : k < n
      · obtain ⟨ad, rfl, _, hc⟩ := HR.out (by omega)
        have HC := Lib.hid hc
        clear hc
        go_wp2
        go_loopw [4] (fun i wr => ∃ j : Nat, j ≤ k ∧ i = .int .i64 j ∧ Hid (∀ t, t < j → f k ≠ f t) ∧ Hid (Sim w wr)) (fun i _ => k - (intOf i).toNat)
        case atStart => exact ⟨0, by omega, rfl, fun j hj => absurd hj (by omega), HS⟩
        case round =>
          clear HS
          obtain ⟨j, hj, rfl, HB, HS⟩ := hrel
          by_cases hjk : j < k
          · have c1 := (cell_sim HS.out _).trans (HC.out k hlt)
            have c2 := (cell_sim HS.out _).trans (HC.out j (by omega))
            cases he : (f k == f j)
            · have HE := Lib.hid he
              go_wp2
              refine wp_text_all (by kernel_rfl) (by kernel_rfl) (by kernel_rfl) (by repeat' (first | (with_reducible apply tame_then) | (with_reducible apply tame_block) | (with_reducible apply tame_scope) | exact tame_gives | exact tame_body (fun _ _ h => ⟨_, h.1⟩))) ?_
              go_wp2
              refine headed ?_
              go_wp2
              go_roundw
              case rel => exact ⟨j + 1, by omega, by go_num, fun t ht => (Nat.lt_succ_iff_lt_or_eq.1 ht).elim (HB.out t) (fun e => by subst e; exact beq_eq_false_iff_ne.1 HE.out), HS.out⟩
              case measure => simp [intOf]; omega
            · have HE : Hid (ringCode f n = 3) := ringCode_dup h1 h12 hlt (anyTo_iff.2 ⟨j, hjk, he⟩)
              go_wp2
              refine wp_text_all (by kernel_rfl) (by kernel_rfl) (by kernel_rfl) (by repeat' (first | (with_reducible apply tame_then) | (with_reducible apply tame_block) | (with_reducible apply tame_scope) | exact tame_gives | exact tame_body (fun _ _ h => ⟨_, h.1⟩))) ?_
              go_wp2
              refine headed ?_
              go_wp2
              go_ret
              exact ⟨ret_int HE.out.symm, HS.out⟩
          · obtain rfl : j = k := by omega
            go_wp2
            go_roundw
            case rel => exact ⟨j + 1, by omega, by go_num, fun t ht => (Nat.lt_succ_iff_lt_or_eq.1 ht).elim (HA.out t) (fun e => by subst e; exact dupAt_no.2 HB.out), HS⟩
            case measure => simp [intOf]; omega
      · obtain rfl : k = n := by omega
        have HE : Hid (ringCode f k = 0) := ringCode_good h1 h12 HA.out
        go_wp2
        go_ret
        exact ⟨ret_int HE.out.symm, HS.out⟩
  · have HE : Hid (ringCode f n = 1) := ringCode_size (by omega)
    have hs' : n < 1 ∨ 12 < n := by omega
    clear hs
    rcases hs' with hs' | hs'
    all_goals
      go_enter Try.func16, Try.ntmps16
      go_wp2
      go_ret
      exact ⟨ret_int HE.out.symm, rfl, rfl, rfl, rfl⟩
set_option maxHeartbeats 400000 in
theorem ringed_any (b : Bool) (A : Option Addr) (n cap B : Nat) (f : Nat → Int) (w : World) (hm : n ≤ maxLen) (hr : Rd w B A n (fun j => .int .i64 (f j))) (hb : (ringCode f n == 0) = b) :
    Calls Try.prog 8 #[.slice A n cap] w fun e w' => e = .returned (.bool b) ∧ Sim w w' := by
  have HR := Lib.hid hr; clear hr
  have HM := Lib.hid hm; clear hm
  have HB := Lib.hid hb; clear hb
  go_enter Try.func8, Try.ntmps8
  go_wp2_with fail
  refine (refRing_any A n cap B f w HM.out HR.out).mono ?_
  rintro e w1 ⟨rfl, hs⟩
  have HS := Lib.hid hs
  clear hs
  go_wp2
  go_ret
  exact ⟨ret_bool HB.out, HS.out⟩
set_option maxHeartbeats 800000 in
theorem ringWrong_any (A : Option Addr) (n cap B : Nat) (f : Nat → Int) (w : World) (hnc : n ≤ cap) (hm : cap ≤ maxLen) (hr : Rd w B A n (fun j => .int .i64 (f j))) :
    Calls Try.prog 13 #[.slice A n cap] w fun e w' => e = .returned (.int .i64 (ringCode f n)) ∧ w = w' := by
  unfold maxLen at hm
  have HR := Lib.hid hr; clear hr
  by_cases hs : 1 ≤ n ∧ n ≤ 12
  · obtain ⟨h1, h12⟩ := hs
    go_enter Try.func13, Try.ntmps13
    go_wp2
    go_loop [15] (fun i => ∃ k : Nat, k ≤ n ∧ i = .int .i64 k ∧ Hid (∀ j, j < k → dupAt f j = false)) (fun i => n - (intOf i).toNat)
    case atStart => exact ⟨0, by omega, rfl, fun j hj => absurd hj (by omega)⟩
    case round =>
      obtain ⟨k, hk, rfl, HA⟩ := hrel
      by_cases hlt : k < n
      · obtain ⟨ad, hA, _, hc⟩ := HR.out (by omega)
        subst hA
        have c1 := hc k hlt
        clear hc
        obtain ⟨b, hb⟩ : ∃ b, dupAt f k = b := ⟨_, rfl⟩
        have HB := Lib.hid hb
        clear hb
        cases b
        · go_wp2_with fail
          refine (contI_is false _ k _ B f _ w (by unfold maxLen; omega) (HR.out.less (by omega)) HB.out).mono ?_
          rintro e w1 ⟨rfl, rfl⟩
          go_wp2
          go_round
          case rel => exact ⟨k + 1, by omega, by go_num, fun t ht => (Nat.lt_succ_iff_lt_or_eq.1 ht).elim (HA.out t) (fun e => by subst e; exact HB.out)⟩
          case measure => simp [intOf]; omega
        · have HE : Hid (ringCode f n = 3) := ringCode_dup h1 h12 hlt HB.out
          go_wp2_with fail
          refine (contI_is true _ k _ B f _ w (by unfold maxLen; omega) (HR.out.less (by omega)) HB.out).mono ?_
          rintro e w1 ⟨rfl, rfl⟩
          go_wp2
          go_ret
          exact ⟨ret_int HE.out.symm, rfl⟩
      · obtain rfl : k = n := by omega
        have HE : Hid (ringCode f k = 0) := ringCode_good h1 h12 HA.out
        go_wp2
        go_ret
        exact ⟨ret_int HE.out.symm, rfl⟩
  · have HE : Hid (ringCode f n = 1) := ringCode_size (by omega)
    have hs' : n < 1 ∨ 12 < n := by omega
    clear hs
    rcases hs' with hs' | hs'
    all_goals
      go_enter Try.func13, Try.ntmps13
      go_wp2
      go_ret
      exact ⟨ret_int HE.out.symm, rfl⟩
set_option maxHeartbeats 800000 in
theorem maxI_any (A : Option Addr) (n cap B : Nat) (f : Nat → Int) (w : World) (h1 : 1 ≤ n) (hm : n ≤ maxLen) (hr : Rd w B A n (fun j => .int .i64 (f j))) :
    Calls Try.prog 14 #[.slice A n cap] w fun e w' => e = .returned (.int .i64 (maxTo f n)) ∧ w = w' := by
  unfold maxLen at hm
  obtain ⟨ad, rfl, _, hc⟩ := hr (by omega)
  have HC := Lib.hid hc
  have c0 : w.cell? ad = some (.int .i64 (f 0)) := by have := hc 0 (by omega); simpa [Addr.add] using this
  have HM0 : Hid (maxTo f 1 = f 0) := by show _ = _; simp [maxTo]
  clear hc hr
  go_enter Try.func14, Try.ntmps14
  go_wp2
  go_loop [3, 4] (fun m i => ∃ k : Nat, 1 ≤ k ∧ k ≤ n ∧ i = .int .i64 k ∧ m = .int .i64 (maxTo f k)) (fun _ i => n - (intOf i).toNat)
  case atStart => exact ⟨1, by omega, h1, rfl, by rw [HM0.out]⟩
  case round =>
    obtain ⟨k, hk1, hk, rfl, rfl⟩ := hrel
    by_cases hlt : k < n
    · have c1 := HC.out k hlt
      have HN : Hid (maxTo f (k + 1) = if maxTo f k < f k then f k else maxTo f k) := rfl
      obtain ⟨y, hy⟩ : ∃ y, maxTo f k = y := ⟨_, rfl⟩
      rw [hy] at HN ⊢
      clear hy
      go_wp2
      go_round
      case rel => exact ⟨k + 1, by omega, by omega, by go_num, by rw [HN.out]⟩
      case measure => simp [intOf]; omega
    · obtain rfl : k = n := by omega
      go_wp2
      go_ret
      exact ⟨rfl, rfl⟩
end Go.Proofs.Ytelenomccmnkfaa
