/- The walks of slices.Index and slices.Contains at [][2]int; low; slices.Clone; turn. -/
import Derived.Test.YtgfogcaklcnliaaFk1
import Derived.Test.YtgfogcaklcnliaaPair
import Derived.Test.YtgfogcaklcnliaaShr
import Derived.Test.YtgfogcaklcnliaaLay
set_option linter.unusedVariables false
set_option linter.unusedSimpArgs false
namespace Go.Proofs.Ytgfogcaklcnliaa
open Go.RowKit

def IdxOk (b : Bool) (k : Int) : Prop := if b then 0 ≤ k else k = -1
/-- Is the pair a, b among the first m? -/
def hasP (a b : Int) (p q : Nat → Int) (m : Nat) : Bool := anyTo (fun j => (a == p j) && (b == q j)) m

set_option maxHeartbeats 1000000 in
theorem indexP_any (A : Option Addr) (m cap B : Nat) (p q : Nat → Int) (a b : Int) (w : World) (hm : m ≤ maxLen) (hB : B ≤ w.heap.size) (hr : Rd w B A (m * 2) (recF2 p q)) :
    Calls Try.prog 27 #[.slice A m cap, .agg #[.int .i64 a, .int .i64 b]] w (Gives fun v w' => ∃ k : Int, v = .int .i64 k ∧ IdxOk (hasP a b p q m) k ∧ Below w.heap.size w w') := by
  unfold maxLen at hm
  have HR := Lib.hid (hr.more hB); clear hr
  have hEq := fun w a b c d => pair_eq w a b c d
  go_enter Try.func27, Try.ntmps27
  go_wp2
  go_loopw [8] (fun i wr => ∃ k : Nat, k ≤ m ∧ i = .int .i64 k ∧ Hid (Below w.heap.size w wr ∧ wr.cell? ⟨w.heap.size, 0, none⟩ = some (.int .i64 a) ∧ wr.cell? ⟨w.heap.size, 1, none⟩ = some (.int .i64 b)) ∧ Hid (∀ j, j < k → ((a == p j) && (b == q j)) = false)) (fun i _ => m - (intOf i).toNat)
  case atStart => exact ⟨0, by omega, rfl, Lib.hid ⟨(Below.refl _ _).alloc (Nat.le_refl _) _, (alloc2 _ _ _ _).1, (alloc2 _ _ _ _).2⟩, fun j hj => absurd hj (by omega)⟩
  case round =>
    obtain ⟨k, hk, rfl, HBW, HA⟩ := hrel
    obtain ⟨hb2, d0, d1⟩ := HBW.out
    have HB2 := Lib.hid hb2
    have HBS : Hid (∀ W, Sim wr W → Below w.heap.size w W ∧ W.cell? ⟨w.heap.size, 0, none⟩ = some (.int .i64 a) ∧ W.cell? ⟨w.heap.size, 1, none⟩ = some (.int .i64 b)) := Lib.hid fun W hs => ⟨below_sim hb2 hs, (cell_sim hs _).trans d0, (cell_sim hs _).trans d1⟩
    clear hb2 HBW
    by_cases hlt : k < m
    · obtain ⟨ad, rfl, hbl, c0, c1⟩ := (HR.out.below HB2.out).rec2 hlt
      cases he : ((a == p k) && (b == q k))
      all_goals
        have HE := Lib.hid he
        go_wp2
        refine wp_text_all (by kernel_rfl) (by kernel_rfl) (by kernel_rfl) (by repeat' (first | (with_reducible apply tame_then) | (with_reducible apply tame_block) | (with_reducible apply tame_scope) | exact tame_gives | exact tame_body (fun _ _ h => ⟨_, h.1⟩))) ?_
        go_wp2
        refine headed ?_
        go_wp2
      · go_roundw
        case rel => exact ⟨k + 1, by omega, by go_num, Lib.hid (HBS.out _ ⟨rfl, rfl, rfl, rfl⟩), fun j hj => (Nat.lt_succ_iff_lt_or_eq.1 hj).elim (HA.out j) (fun e => by subst e; exact HE.out)⟩
        case measure => simp [intOf]; omega
      · have HN : Hid (hasP a b p q m = true) := Lib.hid (anyTo_iff.2 ⟨k, hlt, HE.out⟩)
        go_ret
        exact ⟨_, rfl, _, rfl, by rw [IdxOk, if_pos HN.out]; omega, (HBS.out wr.drew ⟨rfl, rfl, rfl, rfl⟩).1⟩
    · obtain rfl : k = m := by omega
      have HN : Hid (hasP a b p q k = false) := Lib.hid (anyTo_no.2 HA.out)
      go_wp2
      go_ret
      exact ⟨_, rfl, _, rfl, by rw [HN.out, IdxOk, if_neg (by simp)], HB2.out⟩
set_option maxHeartbeats 400000 in
theorem contP_is (c : Bool) (A : Option Addr) (m cap B : Nat) (p q : Nat → Int) (a b : Int) (w : World) (hm : m ≤ maxLen) (hB : B ≤ w.heap.size) (hr : Rd w B A (m * 2) (recF2 p q)) (hc : hasP a b p q m = c) :
    Calls Try.prog 24 #[.slice A m cap, .agg #[.int .i64 a, .int .i64 b]] w (Gives fun v w' => v = .bool c ∧ Below w.heap.size w w') := by
  have HR := Lib.hid (hr.more hB); clear hr
  have HM := Lib.hid hm; clear hm
  have HC := Lib.hid hc
  clear hc
  cases c
  all_goals
    go_enter Try.func24, Try.ntmps24
    go_wp2_with fail
    refine (indexP_any A m cap _ p q a b _ HM.out (by simp) (HR.out.alloc (Nat.le_refl _) _)).mono ?_
    rintro e w1 ⟨v, rfl, k, rfl, hk, hb⟩
    have HB1 : Hid (Below w.heap.size w w1) := Lib.hid (((Below.refl _ _).alloc (Nat.le_refl _) _).trans (hb.mono (by simp)))
    clear hb
    rw [HC.out, IdxOk] at hk
    simp only [if_true, Bool.false_eq_true, if_false] at hk
    try subst hk
    go_wp2
    go_ret
    exact ⟨_, rfl, rfl, HB1.out⟩

/-! low. -/
theorem andNot_pow {a m : Nat} (ha : a < 4294967296) (hm : m < 32) : bits .andNot .u32 (a : Int) (2 ^ m % 4294967296) = ((clr a m : Nat) : Int) := by
  rw [pow_mod hm, u32_andNot_nat a _ ha (pow_lt32 hm)]
  rfl
theorem full_num {n : Nat} (h6 : n ≤ 6) : ((2 : Int) ^ n % 4294967296 - 1) % 4294967296 = ((2 ^ n - 1 : Nat) : Int) := by
  rcases (by omega : n = 0 ∨ n = 1 ∨ n = 2 ∨ n = 3 ∨ n = 4 ∨ n = 5 ∨ n = 6) with rfl | rfl | rfl | rfl | rfl | rfl | rfl <;> decide
set_option maxHeartbeats 1000000 in
theorem low_any (n : Nat) (l : Lk) (A : Option Addr) (m cap B : Nat) (w : World) (h6 : n ≤ 6) (hm : m = l.length) (hm15 : m ≤ 15) (hl : ∀ j, j < m → f1 l j < n) (hB : B ≤ w.heap.size) (hr : Rd w B A (m * 2) (lkR l)) :
    Calls Try.prog 17 #[.int .i64 (n : Nat), .slice A m cap] w (Gives fun v w' => v = .int .u32 (low n l : Nat) ∧ Below w.heap.size w w') := by
  have HR := Lib.hid (hr.more hB); clear hr
  have HM := Lib.hid hm; clear hm
  have HL := Lib.hid hl; clear hl
  have HF := Lib.hid (full_num h6)
  go_enter Try.func17, Try.ntmps17
  go_wp2
  go_loopw [5, 13] (fun s i wr => ∃ k : Nat, i = .int .i64 k ∧ s = .int .u32 (lowTo n l k : Nat) ∧ k ≤ m ∧ Hid (Below w.heap.size w wr)) (fun _ i _ => m - (intOf i).toNat)
  case atStart => exact ⟨0, rfl, by show _ = Value.int .u32 ((2 ^ n - 1 : Nat) : Int); rw [← HF.out], by omega, Below.refl _ _⟩
  case round =>
    obtain ⟨k, rfl, rfl, hk, HB2⟩ := hrel
    have hz := HB2.out.size
    by_cases hlt : k < m
    · obtain ⟨ad, rfl, hbl, c0, c1⟩ := Rd.rec2 (HR.out.below HB2.out) hlt
      have HB1 : Hid (∀ o, Below w.heap.size w (wr.alloc o)) := fun o => HB2.out.alloc hz o
      have hlk := HL.out k hlt
      have hbl2 : (ad.add (k * 2)).block < wr.heap.size := by rw [addr_block]; omega
      have HC := Lib.hid (andNot_pow (m := f1 l k) (by have := six_small h6 (lowTo_lt n l k); omega : lowTo n l k < 4294967296) (by omega))
      go_wp2
      go_roundw
      case rel => exact ⟨k + 1, by go_num, by rw [HC.out]; rfl, by omega, HB1.out _⟩
      case measure => simp [intOf]; omega
    · obtain rfl : k = m := by omega
      go_wp2
      go_ret
      exact ⟨_, rfl, by rw [low, ← HM.out]; rfl, HB2.out⟩

/-! slices.Clone and turn. -/
def lkA (A : Option Addr) (cap : Nat) (l : Lk) : LRow := ⟨A, 31, 2, l.length, cap, lkR l⟩
theorem infoPair : (Try.prog.info? 31).map (fun i => (i.zero, i.size, i.bytes)) = some (some (.agg #[.int .i64 0, .int .i64 0]), 2, 16) := by kernel_rfl
theorem lkR_one (l : Lk) (j : Nat) : (lkR l j).oneCell' = true := rfl
set_option maxHeartbeats 400000 in
theorem clone_any (l : Lk) (A : Option Addr) (m cap B : Nat) (w : World) (hm : m = l.length) (hm15 : m ≤ 15) (hn : A = none → m = 0) (hB : B ≤ w.heap.size) (hr : Rd w B A (m * 2) (lkR l)) :
    Calls Try.prog 21 #[.slice A m cap] w (Gives fun v w' => ∃ A' cap', v = .slice A' m cap' ∧ Lay w w' [lkA A' cap' l]) := by
  have HR := Lib.hid (hr.more hB); clear hr
  have HM := Lib.hid hm; clear hm
  obtain ⟨iO, hiO, hzO0, hzO1, hzO2⟩ := info_parts infoPair
  cases A with
  | none =>
    obtain rfl := hn rfl
    have hnil : ∀ W, (binOp .eql 22 (.slice none 0 cap) (.slice none 0 0)).run Try.prog W = .ok (.bool true) W := fun W => rfl
    go_enter Try.func21, Try.ntmps21
    go_wp2
    go_ret
    refine ⟨_, rfl, none, 0, rfl, ?_⟩
    have h := (Lay.nil w).lnil 31 2 (lkR l)
    unfold lkA
    rw [← HM.out]
    exact h
  | some ad =>
    have hnil : ∀ W, (binOp .eql 22 (.slice (some ad) m cap) (.slice none 0 0)).run Try.prog W = .ok (.bool false) W := fun W => rfl
    go_enter Try.func21, Try.ntmps21
    go_wp2_with (at_builtin; refine wpList_ap rfl (.tmp 5) (.tmp 6) _ rfl 31 iO _ 2 16 Try.underlying22 hiO hzO0 hzO1 hzO2 rfl (by omega) w.heap.size rfl (Own.empty _ _ _ _ (lkR l) _ (by simp) (by simp)) rfl (HR.out.alloc (Nat.le_refl _) _) (fun j _ => lkR_one l j) (lkR l) (fun j hj => absurd hj (by omega)) (fun j _ => by rw [Nat.zero_mul, Nat.zero_add]) m (Nat.zero_add m) (by unfold maxLen; omega) (by omega) (by simp) ?_; intro A1 c1 w1 hown1 hg1 ha1; have HL1 := Lib.hid (((Lay.nil w).new #[] 31 2 0 (lkR l) _ rfl rfl (by unfold maxLen; omega) (fun j hj => absurd hj (by omega))).app 0 rfl hown1 hg1 ha1); clear hown1 hg1 ha1)
    go_ret
    refine ⟨_, rfl, A1, c1, rfl, ?_⟩
    unfold lkA
    rw [← HM.out]
    exact HL1.out

/-- The list behind k turns. -/
def turnTo (l : Lk) (S k : Nat) : Lk := turnL (l.take k) S ++ l.drop k
theorem turnTo_len (l : Lk) (S k : Nat) : (turnTo l S k).length = l.length := by
  unfold turnTo
  rw [List.length_append, turn_len, ← List.length_append, List.take_append_drop]
theorem turnTo_0 (l : Lk) (S : Nat) : turnTo l S 0 = l := rfl
theorem turnTo_all (l : Lk) (S : Nat) {k : Nat} (hk : k = l.length) : turnTo l S k = turnL l S := by
  subst hk
  simp [turnTo]
theorem turnTo_next (l : Lk) (S : Nat) {k : Nat} (hk : k < l.length) : turnTo l S (k + 1) = (turnTo l S k).set k (tn S (f1 l k, f2 l k)) ∧ (turnTo l S k)[k]? = some (f1 l k, f2 l k) := by
  have hl : (turnL (l.take k) S).length = k := by rw [turn_len, List.length_take]; omega
  have hd : l.drop k = (f1 l k, f2 l k) :: l.drop (k + 1) := by
    rw [List.drop_eq_getElem_cons hk]
    have := f_at hk
    rw [List.getElem?_eq_getElem hk] at this
    injection this with this
    rw [this]
  have ht : l.take (k + 1) = l.take k ++ [(f1 l k, f2 l k)] := by
    rw [List.take_add_one, f_at hk]
    rfl
  constructor
  · unfold turnTo
    rw [ht, hd, List.set_append_right _ _ (by omega), hl, Nat.sub_self]
    simp [turnL]
  · unfold turnTo
    rw [hd, List.getElem?_append_right (by omega), hl, Nat.sub_self]
    rfl
theorem f_set (l : Lk) (k : Nat) (x : Nat × Nat) (hk : k < l.length) : ∀ j, f1 (l.set k x) j = (if j = k then x.1 else f1 l j) ∧ f2 (l.set k x) j = if j = k then x.2 else f2 l j := by
  intro j
  unfold f1 f2
  rw [List.getElem?_set]
  by_cases h : j = k
  · subst h; simp [hk]
  · have h' : ¬ k = j := fun e => h e.symm
    simp [h, h']
theorem set_same {α : Type} {l : List α} {k : Nat} {x : α} (h : l[k]? = some x) : l.set k x = l := by
  apply List.ext_getElem?
  intro i
  rw [List.getElem?_set]
  by_cases hi : k = i
  · subst hi
    rw [if_pos rfl, h, if_pos (List.getElem?_eq_some_iff.1 h).1]
  · rw [if_neg hi]
theorem lkR_set (l : Lk) (k : Nat) (x : Nat × Nat) (hk : k < l.length) : lkR (l.set k x) (k * 2) = .int .i64 (x.1 : Nat) ∧ lkR (l.set k x) (k * 2 + 1) = .int .i64 (x.2 : Nat) ∧ ∀ j, j ≠ k * 2 → j ≠ k * 2 + 1 → lkR (l.set k x) j = lkR l j := by
  have hf := f_set l k x hk
  unfold lkR
  refine ⟨?_, ?_, fun j h1 h2 => ?_⟩
  · rw [recF2_0, (hf k).1, if_pos rfl]
  · rw [recF2_1, (hf k).2, if_pos rfl]
  · unfold recF2
    dsimp only
    rw [(hf (j / 2)).1, (hf (j / 2)).2]
    split
    · rw [if_neg (by omega)]
    · rw [if_neg (by omega)]
set_option maxHeartbeats 1000000 in
theorem turn_any (l : Lk) (S : Nat) (A : Option Addr) (m cap B : Nat) (w : World) (hm : m = l.length) (hm15 : m ≤ 15) (hn : A = none → m = 0) (hl : ∀ j, j < m → f1 l j < 32 ∧ f2 l j < 32) (hS : S < 4294967296) (hB : B ≤ w.heap.size) (hr : Rd w B A (m * 2) (lkR l)) :
    Calls Try.prog 22 #[.slice A m cap, .int .u32 S] w (Gives fun v w' => ∃ A' cap', v = .slice A' m cap' ∧ Lay w w' [lkA A' cap' (turnL l S)]) := by
  have HR := Lib.hid (hr.more hB); clear hr
  have HM := Lib.hid hm
  have HN := Lib.hid hn
  have HLT := Lib.hid hl
  clear hn hm hl
  go_enter Try.func22, Try.ntmps22
  go_wp2_with fail
  refine (clone_any l A m cap _ w HM.out hm15 HN.out (Nat.le_refl _) HR.out).mono ?_
  rintro e w1 ⟨v, rfl, A1, c1, rfl, hL1⟩
  have HL1 := Lib.hid hL1
  clear hL1
  go_wp2
  go_loopw [11] (fun i wr => ∃ k : Nat, i = .int .i64 k ∧ k ≤ m ∧ Hid (Lay w wr [⟨A1, 31, 2, m, c1, lkR (turnTo l S k)⟩])) (fun i _ => m - (intOf i).toNat)
  case atStart =>
    refine ⟨0, rfl, by omega, Lib.hid ?_⟩
    have := HL1.out
    unfold lkA at this
    rw [← HM.out] at this
    exact this
  case round =>
    clear HL1
    obtain ⟨k, rfl, hk, HL⟩ := hrel
    have hz := HL.out.size
    by_cases hlt : k < m
    · obtain ⟨ga, rfl, -⟩ := (HL.out.own 0 _ rfl).pos (by show 0 < m; omega)
      have HK := Lib.hid (turnTo_next l S (k := k) (by rw [← HM.out]; exact hlt))
      obtain ⟨c0, c1⟩ : wr.cell? ⟨ga, k * 2, none⟩ = some (.int .i64 (f1 l k : Nat)) ∧ wr.cell? ⟨ga, k * 2 + 1, none⟩ = some (.int .i64 (f2 l k : Nat)) := by
        have h0 := HL.out.cell 0 rfl (j := k * 2) (by omega)
        have h1 := HL.out.cell 0 rfl (j := k * 2 + 1) (by omega)
        have e1 : f1 (turnTo l S k) k = f1 l k := by rw [f1, HK.out.2]; rfl
        have e2 : f2 (turnTo l S k) k = f2 l k := by rw [f2, HK.out.2]; rfl
        unfold lkR at h0 h1
        rw [recF2_0, e1] at h0
        rw [recF2_1, e2] at h1
        exact ⟨h0, h1⟩
      have hga := (HL.out.at_ 0 rfl).2
      have hfz := HL.out.frz 0 rfl (by omega)
      have hbit := bit_at (i := f2 l k) hS
      have hk32 := (HLT.out k hlt).2
      cases hb : S.testBit (f2 l k)
      · rw [hb] at hbit
        have HB := Lib.hid hb
        go_wp2
        go_roundw
        case rel =>
          refine ⟨k + 1, by go_num, by omega, Lib.hid ?_⟩
          have h := HL.out.alloc (.cells #[.int .i64 (f1 l k : Nat), .int .i64 (f2 l k : Nat)] 31)
          have e : turnTo l S (k + 1) = turnTo l S k := by
            rw [HK.out.1, tn, if_neg (by rw [HB.out]; simp)]
            exact set_same HK.out.2
          rw [e]
          exact h
        case measure => simp [intOf]; omega
      · rw [hb] at hbit
        have HB := Lib.hid hb
        go_wp2
        go_roundw
        case rel =>
          refine ⟨k + 1, by go_num, by omega, Lib.hid ?_⟩
          have e : turnTo l S (k + 1) = (turnTo l S k).set k (f2 l k, f1 l k) := by
            rw [HK.out.1, tn, if_pos HB.out]
          obtain ⟨s0, s1, s2⟩ := lkR_set (turnTo l S k) k (f2 l k, f1 l k) (by rw [turnTo_len, ← HM.out]; exact hlt)
          rw [e]
          have h := HL.out.set 0 (fun j => if j = k * 2 then .int .i64 (f2 l k : Nat) else lkR (turnTo l S k) j) (j := k * 2) (u := .int .i64 (f2 l k : Nat)) rfl (by omega) (if_pos rfl) (fun i _ hi => if_neg hi)
          have h2 := h.set 0 (lkR ((turnTo l S k).set k (f2 l k, f1 l k))) (j := k * 2 + 1) (u := .int .i64 (f1 l k : Nat)) rfl (by omega) s1 (fun i _ hi => by
            by_cases h0 : i = k * 2
            · subst h0; rw [if_pos rfl]; exact s0
            · rw [if_neg h0]; exact s2 i h0 hi)
          exact h2.alloc _
        case measure => simp [intOf]; omega
    · obtain rfl : k = m := by omega
      go_wp2
      go_ret
      refine ⟨_, rfl, _, _, rfl, ?_⟩
      have := HL.out
      rw [turnTo_all l S HM.out] at this
      unfold lkA
      rw [turn_len, ← HM.out]
      exact this
end Go.Proofs.Ytgfogcaklcnliaa
