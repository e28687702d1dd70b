/- The walks of linked, of slices.Contains at [][2]int, and of echo's check. -/
import Derived.Test.YtcmbbioipbdonaaEcLk
import Derived.Test.YtcmbbioipbdonaaPair
import Derived.Test.YtcmbbioipbdonaaInside
import Derived.Test.YtcmbbioipbdonaaEcInv
set_option linter.unusedVariables false
set_option linter.unusedSimpArgs false
namespace Go.Proofs.Ytcmbbioipbdonaa
open Go.RowKit

/-- What may be played. -/
def LkOk (n : Int) (m : Nat) (p q : Nat → Int) (st : Int) (many : Nat) : Prop := FkRg n m p q ∧ FkTw m p q ∧ (0 ≤ st ∧ st < n) ∧ many ≤ 60
theorem lcheck_yes {n : Int} {A : Option Addr} {m cap B : Nat} {p q : Nat → Int} {w : World} (hm : m ≤ maxLen) (hB : B ≤ w.heap.size) (hr : Rd w B A (m * 2) (recF2 p q)) (h : FkRg n m p q) :
    Calls Try.prog 17 #[.int .i64 n, .slice A m cap] w (Gives fun v w' => v = .int .i64 0 ∧ Below w.heap.size w w') := by
  refine (lcheck_any n A m cap B p q w hm hB hr).mono ?_
  rintro e w' ⟨v, rfl, c, rfl, hc, hb⟩
  obtain rfl : c = 0 := hc.2 h
  exact ⟨_, rfl, rfl, hb⟩
theorem lcheck_no {n : Int} {A : Option Addr} {m cap B : Nat} {p q : Nat → Int} {w : World} (hm : m ≤ maxLen) (hB : B ≤ w.heap.size) (hr : Rd w B A (m * 2) (recF2 p q)) (h : ¬ FkRg n m p q) :
    Calls Try.prog 17 #[.int .i64 n, .slice A m cap] w (Gives fun v w' => (∃ c : Int, v = .int .i64 c ∧ (c == 0) = false) ∧ Below w.heap.size w w') := by
  refine (lcheck_any n A m cap B p q w hm hB hr).mono ?_
  rintro e w' ⟨v, rfl, c, rfl, hc, hb⟩
  exact ⟨_, rfl, ⟨c, rfl, by rw [beq_eq_false_iff_ne]; exact fun e => h (hc.1 e)⟩, hb⟩
theorem twice_is {b : Bool} {A : Option Addr} {m cap B : Nat} {p q : Nat → Int} {w : World} (hm : m ≤ cap ∧ cap ≤ maxLen) (hB : B ≤ w.heap.size) (hr : Rd w B A (m * 2) (recF2 p q)) (h : b = true ↔ ¬ FkTw m p q) :
    Calls Try.prog 18 #[.slice A m cap] w (Gives fun v w' => v = .bool b ∧ Below w.heap.size w w') := by
  refine (twice_any A m cap B p q w hm hB hr).mono ?_
  rintro e w' ⟨v, rfl, c, rfl, hc, hb⟩
  obtain rfl : c = b := by rw [Bool.eq_iff_iff, hc, h]
  exact ⟨_, rfl, rfl, hb⟩
set_option maxHeartbeats 1000000 in
theorem linked_yes (n st : Int) (A : Option Addr) (m cap many : Nat) (p q : Nat → Int) (w : World) (hm : m ≤ cap ∧ cap ≤ maxLen) (hr : Rd w w.heap.size A (m * 2) (recF2 p q)) (h : LkOk n m p q st many) :
    Calls Try.prog 7 #[.int .i64 n, .slice A m cap, .int .i64 st, .int .i64 (many : Nat)] w (Gives fun v w' => v = .bool true ∧ Below w.heap.size w w') := by
  obtain ⟨h1, h2, ⟨h3, h4⟩, h5⟩ := h
  have HR := Lib.hid hr; clear hr
  have H1 := Lib.hid h1; clear h1
  have HM := Lib.hid hm; clear hm
  have H2 : Hid (false = true ↔ ¬ FkTw m p q) := Lib.hid (Iff.intro (fun e => absurd e (by decide)) fun e => absurd h2 e); clear h2
  have H3 : Hid ((decide (0 ≤ st) && decide (st < n)) = true) := Lib.hid (by simp; omega)
  go_enter Try.func7, Try.ntmps7
  go_wp2_with fail
  refine (lcheck_yes (by have := HM.out; omega) (Nat.le_refl _) HR.out H1.out).mono ?_
  rintro e w1 ⟨v, rfl, rfl, hb⟩
  have HB := Lib.hid hb; clear hb
  go_wp2_with fail
  refine (twice_is (b := false) HM.out HB.out.size (HR.out.below HB.out) H2.out).mono ?_
  rintro e w2 ⟨v, rfl, rfl, hb⟩
  have HB2 := Lib.hid (HB.out.trans (hb.mono HB.out.size)); clear hb
  go_wp2_with (go_at_call 8; refine (inside1 true n st w2 3 w2.heap.size rfl H3.out).mono ?_; rintro e w3 ⟨rfl, rfl⟩)
  go_ret
  exact ⟨_, rfl, by first | rfl | (congr 1; simp; omega), HB2.out.alloc HB2.out.size _⟩
set_option maxHeartbeats 1000000 in
theorem linked_no (n st : Int) (A : Option Addr) (m cap many : Nat) (p q : Nat → Int) (w : World) (hm : m ≤ cap ∧ cap ≤ maxLen) (hmany : many ≤ maxLen) (hr : Rd w w.heap.size A (m * 2) (recF2 p q)) (h : ¬ LkOk n m p q st many) :
    Calls Try.prog 7 #[.int .i64 n, .slice A m cap, .int .i64 st, .int .i64 (many : Nat)] w (Gives fun v w' => v = .bool false ∧ Below w.heap.size w w') := by
  have HR := Lib.hid hr; clear hr
  have HM := Lib.hid hm; clear hm
  unfold maxLen at hmany
  by_cases h1 : FkRg n m p q
  rotate_left
  · have H1 := Lib.hid h1; clear h1 h
    go_enter Try.func7, Try.ntmps7
    go_wp2_with fail
    refine (lcheck_no (by have := HM.out; omega) (Nat.le_refl _) HR.out H1.out).mono ?_
    rintro e w1 ⟨v, rfl, ⟨c, rfl, hc⟩, hb⟩
    have HB := Lib.hid hb; clear hb
    go_wp2
    go_ret
    exact ⟨_, rfl, rfl, HB.out⟩
  have H1 := Lib.hid h1
  by_cases h2 : FkTw m p q
  rotate_left
  · have H2 : Hid (¬ FkTw m p q) := Lib.hid h2; clear h1 h h2
    go_enter Try.func7, Try.ntmps7
    go_wp2_with fail
    refine (lcheck_yes (by have := HM.out; omega) (Nat.le_refl _) HR.out H1.out).mono ?_
    rintro e w1 ⟨v, rfl, rfl, hb⟩
    have HB := Lib.hid hb; clear hb
    go_wp2_with fail
    refine (twice_is (b := true) HM.out HB.out.size (HR.out.below HB.out) (Iff.intro (fun _ => H2.out) fun _ => rfl)).mono ?_
    rintro e w2 ⟨v, rfl, rfl, hb⟩
    have HB2 := Lib.hid (HB.out.trans (hb.mono HB.out.size)); clear hb
    go_wp2
    go_ret
    exact ⟨_, rfl, rfl, HB2.out⟩
  have H2 : Hid (false = true ↔ ¬ FkTw m p q) := Lib.hid (Iff.intro (fun e => absurd e (by decide)) fun e => absurd h2 e)
  by_cases h3 : 0 ≤ st ∧ st < n
  · have h5 : ¬ many ≤ 60 := fun h5 => h ⟨h1, h2, h3, h5⟩
    have H3 : Hid ((decide (0 ≤ st) && decide (st < n)) = true) := Lib.hid (by simp; omega)
    clear h1 h2 h
    go_enter Try.func7, Try.ntmps7
    go_wp2_with fail
    refine (lcheck_yes (by have := HM.out; omega) (Nat.le_refl _) HR.out H1.out).mono ?_
    rintro e w1 ⟨v, rfl, rfl, hb⟩
    have HB := Lib.hid hb; clear hb
    go_wp2_with fail
    refine (twice_is (b := false) HM.out HB.out.size (HR.out.below HB.out) H2.out).mono ?_
    rintro e w2 ⟨v, rfl, rfl, hb⟩
    have HB2 := Lib.hid (HB.out.trans (hb.mono HB.out.size)); clear hb
    go_wp2_with (go_at_call 8; refine (inside1 true n st w2 3 w2.heap.size rfl H3.out).mono ?_; rintro e w3 ⟨rfl, rfl⟩)
    go_ret
    exact ⟨_, rfl, by first | rfl | (congr 1; simp; omega), HB2.out.alloc HB2.out.size _⟩
  · have H3 : Hid ((decide (0 ≤ st) && decide (st < n)) = false) := Lib.hid (by simp; omega)
    clear h1 h2 h h3
    go_enter Try.func7, Try.ntmps7
    go_wp2_with fail
    refine (lcheck_yes (by have := HM.out; omega) (Nat.le_refl _) HR.out H1.out).mono ?_
    rintro e w1 ⟨v, rfl, rfl, hb⟩
    have HB := Lib.hid hb; clear hb
    go_wp2_with fail
    refine (twice_is (b := false) HM.out HB.out.size (HR.out.below HB.out) H2.out).mono ?_
    rintro e w2 ⟨v, rfl, rfl, hb⟩
    have HB2 := Lib.hid (HB.out.trans (hb.mono HB.out.size)); clear hb
    go_wp2_with (go_at_call 8; refine (inside1 false n st w2 3 w2.heap.size rfl H3.out).mono ?_; rintro e w3 ⟨rfl, rfl⟩)
    go_ret
    exact ⟨_, rfl, rfl, HB2.out.alloc HB2.out.size _⟩


def IdxOk (b : Bool) (k : Int) : Prop := if b then 0 ≤ k else k = -1
/-- Is the pair a, b among the first m? -/
def hasP (a b : Int) (p q : Nat → Int) (m : Nat) : Bool := anyTo (fun j => (a == p j) && (b == q j)) m

set_option maxHeartbeats 1000000 in
theorem indexP_any (A : Option Addr) (m cap B : Nat) (p q : Nat → Int) (a b : Int) (w : World) (hm : m ≤ maxLen) (hB : B ≤ w.heap.size) (hr : Rd w B A (m * 2) (recF2 p q)) :
    Calls Try.prog 23 #[.slice A m cap, .agg #[.int .i64 a, .int .i64 b]] w (Gives fun v w' => ∃ k : Int, v = .int .i64 k ∧ IdxOk (hasP a b p q m) k ∧ Below w.heap.size w w') := by
  unfold maxLen at hm
  have HR := Lib.hid (hr.more hB); clear hr
  have hEq := fun w a b c d => pair_eq w a b c d
  go_enter Try.func23, Try.ntmps23
  go_wp2
  go_loopw [8] (fun i wr => ∃ k : Nat, k ≤ m ∧ i = .int .i64 k ∧ Hid (Below w.heap.size w wr ∧ wr.cell? ⟨w.heap.size, 0, none⟩ = some (.int .i64 a) ∧ wr.cell? ⟨w.heap.size, 1, none⟩ = some (.int .i64 b)) ∧ Hid (∀ j, j < k → ((a == p j) && (b == q j)) = false)) (fun i _ => m - (intOf i).toNat)
  case atStart => exact ⟨0, by omega, rfl, Lib.hid ⟨(Below.refl _ _).alloc (Nat.le_refl _) _, (alloc2 _ _ _ _).1, (alloc2 _ _ _ _).2⟩, fun j hj => absurd hj (by omega)⟩
  case round =>
    obtain ⟨k, hk, rfl, HBW, HA⟩ := hrel
    obtain ⟨hb2, d0, d1⟩ := HBW.out
    have HB2 := Lib.hid hb2
    have HBS : Hid (∀ W, Sim wr W → Below w.heap.size w W ∧ W.cell? ⟨w.heap.size, 0, none⟩ = some (.int .i64 a) ∧ W.cell? ⟨w.heap.size, 1, none⟩ = some (.int .i64 b)) := Lib.hid fun W hs => ⟨below_sim hb2 hs, (cell_sim hs _).trans d0, (cell_sim hs _).trans d1⟩
    clear hb2 HBW
    by_cases hlt : k < m
    · obtain ⟨ad, rfl, hbl, c0, c1⟩ := (HR.out.below HB2.out).rec2 hlt
      cases he : ((a == p k) && (b == q k))
      all_goals
        have HE := Lib.hid he
        go_wp2
        refine wp_text_all (by kernel_rfl) (by kernel_rfl) (by kernel_rfl) (by repeat' (first | (with_reducible apply tame_then) | (with_reducible apply tame_block) | (with_reducible apply tame_scope) | exact tame_gives | exact tame_body (fun _ _ h => ⟨_, h.1⟩))) ?_
        go_wp2
        refine headed ?_
        go_wp2
      · go_roundw
        case rel => exact ⟨k + 1, by omega, by go_num, Lib.hid (HBS.out _ ⟨rfl, rfl, rfl, rfl⟩), fun j hj => (Nat.lt_succ_iff_lt_or_eq.1 hj).elim (HA.out j) (fun e => by subst e; exact HE.out)⟩
        case measure => simp [intOf]; omega
      · have HN : Hid (hasP a b p q m = true) := Lib.hid (anyTo_iff.2 ⟨k, hlt, HE.out⟩)
        go_ret
        exact ⟨_, rfl, _, rfl, by rw [IdxOk, if_pos HN.out]; omega, (HBS.out wr.drew ⟨rfl, rfl, rfl, rfl⟩).1⟩
    · obtain rfl : k = m := by omega
      have HN : Hid (hasP a b p q k = false) := Lib.hid (anyTo_no.2 HA.out)
      go_wp2
      go_ret
      exact ⟨_, rfl, _, rfl, by rw [HN.out, IdxOk, if_neg (by simp)], HB2.out⟩
set_option maxHeartbeats 400000 in
theorem contP_is (c : Bool) (A : Option Addr) (m cap B : Nat) (p q : Nat → Int) (a b : Int) (w : World) (hm : m ≤ maxLen) (hB : B ≤ w.heap.size) (hr : Rd w B A (m * 2) (recF2 p q)) (hc : hasP a b p q m = c) :
    Calls Try.prog 19 #[.slice A m cap, .agg #[.int .i64 a, .int .i64 b]] w (Gives fun v w' => v = .bool c ∧ Below w.heap.size w w') := by
  have HR := Lib.hid (hr.more hB); clear hr
  have HM := Lib.hid hm; clear hm
  have HC := Lib.hid hc
  clear hc
  cases c
  all_goals
    go_enter Try.func19, Try.ntmps19
    go_wp2_with fail
    refine (indexP_any A m cap _ p q a b _ HM.out (by simp) (HR.out.alloc (Nat.le_refl _) _)).mono ?_
    rintro e w1 ⟨v, rfl, k, rfl, hk, hb⟩
    have HB1 : Hid (Below w.heap.size w w1) := Lib.hid (((Below.refl _ _).alloc (Nat.le_refl _) _).trans (hb.mono (by simp)))
    clear hb
    rw [HC.out, IdxOk] at hk
    simp only [if_true, Bool.false_eq_true, if_false] at hk
    try subst hk
    go_wp2
    go_ret
    exact ⟨_, rfl, rfl, HB1.out⟩

/-! low. -/
end Go.Proofs.Ytcmbbioipbdonaa
