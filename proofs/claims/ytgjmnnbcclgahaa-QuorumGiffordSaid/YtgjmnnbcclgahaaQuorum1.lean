/- The walks of the checks of sets, of 'wins' and Wins. -/
import Derived.Test.YtgjmnnbcclgahaaWait2
import Derived.Test.YtgjmnnbcclgahaaOwn
set_option linter.unusedVariables false
set_option linter.unusedSimpArgs false
namespace Go.Proofs.Ytgjmnnbcclgahaa
open Go.RowKit

def setOdd (n x : Nat) : Bool := x == 0 || decide (2 ^ n ≤ x)
def setBad (n : Nat) (f : Nat → Nat) (m : Nat) : Bool := anyTo (fun j => setOdd n (f j)) m
def quSize (n : Int) (m : Nat) : Prop := 1 ≤ n ∧ n ≤ 6 ∧ m ≤ 20
instance (n : Int) (m : Nat) : Decidable (quSize n m) := by unfold quSize; infer_instance
def quCode (n : Int) (f : Nat → Nat) (m s : Nat) : Int := if quSize n m then (if setBad n.toNat f m || decide (2 ^ n.toNat ≤ s) then 4 else 0) else 1
theorem quCode_size {n : Int} {f : Nat → Nat} {m s : Nat} (h : ¬ quSize n m) : quCode n f m s = 1 := by rw [quCode, if_neg h]
theorem quCode_bad {n : Nat} {f : Nat → Nat} {m s : Nat} (h : quSize n m) (hb : setBad n f m = true) : quCode n f m s = 4 := by rw [quCode, if_pos h]; simp [hb]
theorem quCode_great {n : Nat} {f : Nat → Nat} {m s : Nat} (h : quSize n m) (hb : 2 ^ n ≤ s) : quCode n f m s = 4 := by rw [quCode, if_pos h]; simp [hb]
theorem quCode_good {n : Nat} {f : Nat → Nat} {m s : Nat} (h : quSize n m) (hb : setBad n f m = false) (hs : s < 2 ^ n) : quCode n f m s = 0 := by
  rw [quCode, if_pos h]
  have : ¬ 2 ^ n ≤ s := by omega
  simp [hb, this]
theorem pow_int {n : Nat} (h : n ≤ 6) : ((2 : Int) ^ n % 4294967296) = ((2 ^ n : Nat) : Int) := (two_pow_small h).1

set_option maxHeartbeats 400000 in
theorem setsCheck_any (n : Int) (A : Option Addr) (m cap B : Nat) (f : Nat → Nat) (s : Nat) (w : World) (hm : m ≤ maxLen) (hr : Rd w B A m (fun j => .int .u32 (f j : Nat))) :
    Calls Try.prog 18 #[.int .i64 n, .slice A m cap, .int .u32 s] w fun e w' => e = .returned (.int .i64 (quCode n f m s)) ∧ w = w' := by
  unfold maxLen at hm
  have HR := Lib.hid hr; clear hr
  by_cases hs : quSize n m
  · have HS := Lib.hid hs
    obtain ⟨h1, h2, h3⟩ := hs
    obtain ⟨n, rfl⟩ := Int.eq_ofNat_of_zero_le (by omega : 0 ≤ n)
    have HP := Lib.hid (pow_int (n := n) (by omega))
    go_enter Try.func18, Try.ntmps18
    go_wp2
    go_loop [22] (fun i => ∃ k : Nat, k ≤ m ∧ i = .int .i64 k ∧ ∀ j, j < k → setOdd n (f j) = false) (fun i => m - (intOf i).toNat)
    case atStart => exact ⟨0, by omega, rfl, fun j hj => absurd hj (by omega)⟩
    case round =>
      obtain ⟨k, hk, rfl, hall⟩ := hrel
      have HA := Lib.hid hall; clear hall
      by_cases hlt : k < m
      · obtain ⟨ad, rfl, _, hc⟩ := HR.out (by omega)
        have hck := hc k hlt
        clear hc
        by_cases ho : setOdd n (f k) = true
        · have HB := Lib.hid (quCode_bad (s := s) HS.out (anyTo_iff.2 ⟨k, hlt, ho⟩))
          by_cases h0 : f k = 0
          · have h0' : ((f k : Int) == 0) = true := by simp [h0]
            clear h0 ho
            go_wp2
            go_ret
            exact ⟨ret_int HB.out.symm, rfl⟩
          · have h0' : ((f k : Int) == 0) = false := by simp [h0]
            have h4 : (2 : Int) ^ n % 4294967296 ≤ (f k : Int) := by rw [HP.out]; simp [setOdd, h0] at ho; omega
            clear h0 ho
            go_wp2
            go_ret
            exact ⟨ret_int HB.out.symm, rfl⟩
        · have ho : setOdd n (f k) = false := by simpa using ho
          have h0' : ((f k : Int) == 0) = false := by simp [setOdd] at ho; simp [ho.1]
          have h4 : ¬ (2 : Int) ^ n % 4294967296 ≤ (f k : Int) := by rw [HP.out]; simp [setOdd] at ho; omega
          have HO := Lib.hid ho; clear ho
          go_wp2
          go_round
          case rel => exact ⟨k + 1, by omega, by go_num, fun j hj => (Nat.lt_succ_iff_lt_or_eq.1 hj).elim (HA.out j) (fun e => by subst e; exact HO.out)⟩
          case measure => simp [intOf]; omega
      · obtain rfl : k = m := by omega
        have HB := Lib.hid (anyTo_no.2 HA.out)
        by_cases hg : 2 ^ n ≤ s
        · have HC := Lib.hid (quCode_great (f := f) HS.out hg)
          have hg' : (2 : Int) ^ n % 4294967296 ≤ (s : Int) := by rw [HP.out]; omega
          clear hg
          go_wp2
          go_ret
          exact ⟨ret_int HC.out.symm, rfl⟩
        · have HC := Lib.hid (quCode_good HS.out HB.out (by omega : s < 2 ^ n))
          have hg' : ¬ (2 : Int) ^ n % 4294967296 ≤ (s : Int) := by rw [HP.out]; omega
          clear hg
          go_wp2
          go_ret
          exact ⟨ret_int HC.out.symm, rfl⟩
  · have HW := Lib.hid (quCode_size (f := f) (s := s) hs)
    have hs' : n < 1 ∨ 6 < n ∨ 20 < m := by unfold quSize at hs; omega
    clear hs
    go_enter Try.func18, Try.ntmps18
    go_wp2
    all_goals first | (go_ret; exact ⟨ret_int HW.out.symm, rfl⟩) | (exfalso; omega)

def shr (x n : Nat) : Bool := (x : Int) / 2 ^ n != 0
theorem shr_eq (x n : Nat) : ((x : Int) / 2 ^ n != 0) = decide (2 ^ n ≤ x) := by
  rw [Bool.eq_iff_iff, decide_eq_true_iff]
  constructor
  · exact div_pow_pos
  · intro h
    cases hq : ((x : Int) / 2 ^ n != 0)
    · have := div_pow_zero hq; omega
    · rfl

set_option maxHeartbeats 400000 in
theorem wrongC_any (x n b : Nat) (w : World) (h6 : n ≤ 6) (hc : w.cell? ⟨b, 0, none⟩ = some (.int .i64 n)) : Calls Try.prog 42 #[.int .u32 x, .pointer (some ⟨b, 0, none⟩)] w fun e w' => e = .returned (.bool (setOdd n x)) ∧ w = w' := by
  by_cases h0 : x = 0
  · have h0' : ((x : Int) == 0) = true := by simp [h0]
    have HO : Hid (setOdd n x = true) := by show setOdd n x = true; simp [setOdd, h0]
    clear h0
    go_enter Try.func42, Try.ntmps42
    go_wp2
    go_ret
    exact ⟨ret_bool HO.out.symm, rfl⟩
  · have h0' : ((x : Int) == 0) = false := by simp [h0]
    have HO : Hid (((x : Int) / 2 ^ n != 0) = setOdd n x) := by show ((x : Int) / 2 ^ n != 0) = setOdd n x; rw [shr_eq]; simp [setOdd, h0]
    clear h0
    go_enter Try.func42, Try.ntmps42
    go_wp2
    go_ret
    exact ⟨ret_bool HO.out, rfl⟩

def sub32 (x s : Nat) : Bool := bits .andNot .u32 (x : Int) (s : Int) == 0
set_option maxHeartbeats 400000 in
theorem winsC_any (x s b : Nat) (w : World) (hc : w.cell? ⟨b, 0, none⟩ = some (.int .u32 s)) : Calls Try.prog 43 #[.int .u32 x, .pointer (some ⟨b, 0, none⟩)] w fun e w' => e = .returned (.bool (sub32 x s)) ∧ w = w' := by
  go_enter Try.func43, Try.ntmps43
  go_wp2
  go_ret
  exact ⟨rfl, rfl⟩

/-- The first place below n at which p holds, or -1. -/
def idxTo (p : Nat → Bool) (n : Nat) : Int := match (List.range n).find? p with | some i => (i : Int) | none => -1
theorem idxTo_hit {p : Nat → Bool} {n k : Nat} (hk : k < n) (h : p k = true) (hb : ∀ j, j < k → p j = false) : idxTo p n = k := by
  have : (List.range n).find? p = some k := by
    rw [List.find?_range_eq_some]
    exact ⟨h, by simpa using hk, fun j hj => by simp [hb j hj]⟩
  rw [idxTo, this]
theorem idxTo_miss {p : Nat → Bool} {n : Nat} (hb : ∀ j, j < n → p j = false) : idxTo p n = -1 := by
  have : (List.range n).find? p = none := by
    rw [List.find?_range_eq_none]
    intro i hi; simp [hb i hi]
  rw [idxTo, this]
theorem idxTo_any (p : Nat → Bool) (n : Nat) : decide (0 ≤ idxTo p n) = anyTo p n := by
  cases h : anyTo p n
  · rw [idxTo_miss (anyTo_no.1 h)]; rfl
  · cases hf : (List.range n).find? p with
    | none =>
      rw [List.find?_range_eq_none] at hf
      obtain ⟨j, hj, hp⟩ := anyTo_iff.1 h
      have := hf j hj
      rw [hp] at this; simp at this
    | some i => rw [idxTo, hf]; simp

set_option maxHeartbeats 400000 in
theorem index_wrong (n : Nat) (hn : n ≤ 6) (A : Option Addr) (m cap B b : Nat) (f : Nat → Nat) (w : World) (hm : m ≤ maxLen) (hr : Rd w B A m (fun j => .int .u32 (f j : Nat))) (hb : w.cell? ⟨b, 0, none⟩ = some (.int .i64 n)) :
    Calls Try.prog 45 #[.slice A m cap, .func (.func 42) #[] #[.pointer (some ⟨b, 0, none⟩)]] w fun e w' => e = .returned (.int .i64 (idxTo (fun j => (fun x => setOdd n x) (f j)) m)) ∧ w = w' := by
  unfold maxLen at hm
  have HR := Lib.hid hr; clear hr
  have HB := Lib.hid hb; clear hb
  have _ := hn
  have HC := Lib.hid (fun (x : Nat) => wrongC_any x n b _ hn HB.out)
  go_enter Try.func45, Try.ntmps45
  go_wp2
  go_loop [8] (fun i => ∃ k : Nat, k ≤ m ∧ i = .int .i64 k ∧ ∀ j, j < k → (fun x => setOdd n x) (f j) = false) (fun i => m - (intOf i).toNat)
  case atStart => exact ⟨0, by omega, rfl, fun j hj => absurd hj (by omega)⟩
  case round =>
    obtain ⟨k, hk, rfl, hall⟩ := hrel
    have HA := Lib.hid hall; clear hall
    by_cases hlt : k < m
    · obtain ⟨ad, rfl, _, hc⟩ := HR.out (by omega)
      have hck := hc k hlt
      clear hc
      cases hq : (fun x => setOdd n x) (f k)
      all_goals
        have HQ := Lib.hid hq; clear hq
        go_wp2_with (go_at_call 42; refine (bool_is (HC.out (f k)) HQ.out).mono ?_; rintro e w' ⟨rfl, rfl⟩)
        first
          | (go_ret; exact ⟨ret_int (idxTo_hit hlt HQ.out HA.out).symm, rfl⟩)
          | (go_round
             case rel => exact ⟨k + 1, by omega, by go_num, fun j hj => (Nat.lt_succ_iff_lt_or_eq.1 hj).elim (HA.out j) (fun e => by subst e; exact HQ.out)⟩
             case measure => simp [intOf]; omega)
    · obtain rfl : k = m := by omega
      go_wp2
      go_ret
      exact ⟨ret_int (idxTo_miss HA.out).symm, rfl⟩

set_option maxHeartbeats 400000 in
theorem contains_wrong (n : Nat) (hn : n ≤ 6) (A : Option Addr) (m cap B b : Nat) (f : Nat → Nat) (w : World) (hm : m ≤ maxLen) (hr : Rd w B A m (fun j => .int .u32 (f j : Nat))) (hb : w.cell? ⟨b, 0, none⟩ = some (.int .i64 n)) :
    Calls Try.prog 41 #[.slice A m cap, .func (.func 42) #[] #[.pointer (some ⟨b, 0, none⟩)]] w fun e w' => e = .returned (.bool (anyTo (fun j => (fun x => setOdd n x) (f j)) m)) ∧ w = w' := by
  have HI := Lib.hid (index_wrong n hn A m cap B b f w hm hr hb)
  have HD := Lib.hid (idxTo_any (fun j => (fun x => setOdd n x) (f j)) m)
  clear hm hr hb
  go_enter Try.func41, Try.ntmps41
  go_wp2_with (go_at_call 45; refine HI.out.mono ?_; rintro e w' ⟨rfl, rfl⟩)
  go_ret
  exact ⟨ret_bool HD.out, rfl⟩
set_option maxHeartbeats 400000 in
theorem index_wins (n : Nat) (hn : True) (A : Option Addr) (m cap B b : Nat) (f : Nat → Nat) (w : World) (hm : m ≤ maxLen) (hr : Rd w B A m (fun j => .int .u32 (f j : Nat))) (hb : w.cell? ⟨b, 0, none⟩ = some (.int .u32 n)) :
    Calls Try.prog 45 #[.slice A m cap, .func (.func 43) #[] #[.pointer (some ⟨b, 0, none⟩)]] w fun e w' => e = .returned (.int .i64 (idxTo (fun j => (fun x => sub32 x n) (f j)) m)) ∧ w = w' := by
  unfold maxLen at hm
  have HR := Lib.hid hr; clear hr
  have HB := Lib.hid hb; clear hb
  have _ := hn
  have HC := Lib.hid (fun (x : Nat) => winsC_any x n b _ HB.out)
  go_enter Try.func45, Try.ntmps45
  go_wp2
  go_loop [8] (fun i => ∃ k : Nat, k ≤ m ∧ i = .int .i64 k ∧ ∀ j, j < k → (fun x => sub32 x n) (f j) = false) (fun i => m - (intOf i).toNat)
  case atStart => exact ⟨0, by omega, rfl, fun j hj => absurd hj (by omega)⟩
  case round =>
    obtain ⟨k, hk, rfl, hall⟩ := hrel
    have HA := Lib.hid hall; clear hall
    by_cases hlt : k < m
    · obtain ⟨ad, rfl, _, hc⟩ := HR.out (by omega)
      have hck := hc k hlt
      clear hc
      cases hq : (fun x => sub32 x n) (f k)
      all_goals
        have HQ := Lib.hid hq; clear hq
        go_wp2_with (go_at_call 43; refine (bool_is (HC.out (f k)) HQ.out).mono ?_; rintro e w' ⟨rfl, rfl⟩)
        first
          | (go_ret; exact ⟨ret_int (idxTo_hit hlt HQ.out HA.out).symm, rfl⟩)
          | (go_round
             case rel => exact ⟨k + 1, by omega, by go_num, fun j hj => (Nat.lt_succ_iff_lt_or_eq.1 hj).elim (HA.out j) (fun e => by subst e; exact HQ.out)⟩
             case measure => simp [intOf]; omega)
    · obtain rfl : k = m := by omega
      go_wp2
      go_ret
      exact ⟨ret_int (idxTo_miss HA.out).symm, rfl⟩

set_option maxHeartbeats 400000 in
theorem contains_wins (n : Nat) (hn : True) (A : Option Addr) (m cap B b : Nat) (f : Nat → Nat) (w : World) (hm : m ≤ maxLen) (hr : Rd w B A m (fun j => .int .u32 (f j : Nat))) (hb : w.cell? ⟨b, 0, none⟩ = some (.int .u32 n)) :
    Calls Try.prog 41 #[.slice A m cap, .func (.func 43) #[] #[.pointer (some ⟨b, 0, none⟩)]] w fun e w' => e = .returned (.bool (anyTo (fun j => (fun x => sub32 x n) (f j)) m)) ∧ w = w' := by
  have HI := Lib.hid (index_wins n hn A m cap B b f w hm hr hb)
  have HD := Lib.hid (idxTo_any (fun j => (fun x => sub32 x n) (f j)) m)
  clear hm hr hb
  go_enter Try.func41, Try.ntmps41
  go_wp2_with (go_at_call 45; refine HI.out.mono ?_; rintro e w' ⟨rfl, rfl⟩)
  go_ret
  exact ⟨ret_bool HD.out, rfl⟩

set_option maxHeartbeats 400000 in
theorem quWrong_any (n : Int) (A : Option Addr) (m cap B : Nat) (f : Nat → Nat) (s : Nat) (w : World) (hB : B ≤ w.heap.size) (hm : m ≤ maxLen) (hr : Rd w B A m (fun j => .int .u32 (f j : Nat))) :
    Calls Try.prog 30 #[.int .i64 n, .slice A m cap, .int .u32 s] w fun e w' => e = .returned (.int .i64 (quCode n f m s)) ∧ Below w.heap.size w w' := by
  have hm' := hm
  unfold maxLen at hm'
  have HM := Lib.hid hm; clear hm
  have HR := Lib.hid hr; clear hr
  by_cases hs : quSize n m
  · have HS := Lib.hid hs
    obtain ⟨h1, h2, h3⟩ := hs
    obtain ⟨n, rfl⟩ := Int.eq_ofNat_of_zero_le (by omega : 0 ≤ n)
    have h6 : n ≤ 6 := by omega
    have HC := Lib.hid (contains_wrong n h6 A m cap B w.heap.size f (w.alloc (.cells #[.int .i64 n] 3)) HM.out (HR.out.alloc hB _) (by simp))
    cases hq : setBad n f m
    · have HQ := Lib.hid hq; clear hq
      have HE : Hid (quCode n f m s = if shr s n then 4 else 0) := by
        show quCode n f m s = _
        have e := shr_eq s n
        rw [shr, e]
        by_cases hg : 2 ^ n ≤ s
        · rw [quCode_great HS.out hg]; simp [hg]
        · rw [quCode_good HS.out HQ.out (by omega)]; simp [hg]
      cases hz : ((s : Int) / 2 ^ n != 0)
      all_goals
        have HZ : Hid (shr s n = _) := hz
        go_enter Try.func30, Try.ntmps30
        go_wp2_with (go_at_call 41; refine (bool_is HC.out HQ.out).mono ?_; rintro e w' ⟨rfl, rfl⟩)
        go_ret
        exact ⟨ret_int (by rw [HE.out, HZ.out]; rfl), (Below.refl _ _).alloc (Nat.le_refl _) _⟩
    · have HQ := Lib.hid hq; clear hq
      have HE := Lib.hid (quCode_bad (s := s) HS.out HQ.out)
      go_enter Try.func30, Try.ntmps30
      go_wp2_with (go_at_call 41; refine (bool_is HC.out HQ.out).mono ?_; rintro e w' ⟨rfl, rfl⟩)
      go_ret
      exact ⟨ret_int HE.out.symm, (Below.refl _ _).alloc (Nat.le_refl _) _⟩
  · have HW := Lib.hid (quCode_size (f := f) (s := s) hs)
    have hs' : n < 1 ∨ 6 < n ∨ 20 < m := by unfold quSize at hs; omega
    clear hs
    go_enter Try.func30, Try.ntmps30
    go_wp2
    all_goals first | (go_ret; exact ⟨ret_int HW.out.symm, (Below.refl _ _).alloc (Nat.le_refl _) _⟩) | (exfalso; omega)

def winsB (f : Nat → Nat) (m s : Nat) : Bool := anyTo (fun j => sub32 (f j) s) m
set_option maxHeartbeats 400000 in
theorem winsIn_any (A : Option Addr) (m cap B : Nat) (f : Nat → Nat) (s : Nat) (w : World) (hB : B ≤ w.heap.size) (hm : m ≤ maxLen) (hr : Rd w B A m (fun j => .int .u32 (f j : Nat))) :
    Calls Try.prog 31 #[.slice A m cap, .int .u32 s] w fun e w' => e = .returned (.bool (winsB f m s)) ∧ Below w.heap.size w w' := by
  have HC := Lib.hid (contains_wins s trivial A m cap B w.heap.size f (w.alloc (.cells #[.int .u32 s] 23)) hm (hr.alloc hB _) (by simp))
  clear hm hr
  go_enter Try.func31, Try.ntmps31
  go_wp2_with (go_at_call 41; refine HC.out.mono ?_; rintro e w' ⟨rfl, rfl⟩)
  go_ret
  exact ⟨rfl, (Below.refl _ _).alloc (Nat.le_refl _) _⟩

theorem winsIn_is (b : Bool) (A : Option Addr) (m cap B : Nat) (f : Nat → Nat) (s : Nat) (w : World) (hB : B ≤ w.heap.size) (hm : m ≤ maxLen) (hr : Rd w B A m (fun j => .int .u32 (f j : Nat))) (hb : winsB f m s = b) :
    Calls Try.prog 31 #[.slice A m cap, .int .u32 s] w fun e w' => e = .returned (.bool b) ∧ Below w.heap.size w w' := by
  rw [← hb]; exact winsIn_any A m cap B f s w hB hm hr

set_option maxHeartbeats 400000 in
theorem quWins_good (n : Int) (A : Option Addr) (m cap B : Nat) (f : Nat → Nat) (s : Nat) (w : World) (hB : B ≤ w.heap.size) (hm : m ≤ maxLen) (hr : Rd w B A m (fun j => .int .u32 (f j : Nat))) (hg : quCode n f m s = 0) :
    Calls Try.prog 17 #[.int .i64 n, .slice A m cap, .int .u32 s] w fun e w' => e = .returned (.tuple #[.bool (winsB f m s), .int .i64 0]) ∧ Below w.heap.size w w' := by
  have HM := Lib.hid hm; clear hm
  have HR := Lib.hid hr; clear hr
  have HG := Lib.hid hg; clear hg
  go_enter Try.func17, Try.ntmps17
  go_wp2_with fail
  refine (quWrong_any n A m cap B f s _ hB HM.out HR.out).mono ?_
  rintro e w1 ⟨rfl, hb1⟩
  rw [HG.out]
  have HB1 := Lib.hid hb1; clear hb1
  go_wp2_with fail
  refine (winsIn_any A m cap B f s _ (Nat.le_trans hB HB1.out.size) HM.out (HR.out.keep fun p hp => HB1.out.cell (by omega))).mono ?_
  rintro e w2 ⟨rfl, hb2⟩
  have HB2 := Lib.hid (HB1.out.trans (hb2.mono HB1.out.size)); clear hb2
  go_wp2
  go_ret2
  exact ⟨rfl, HB2.out⟩
set_option maxHeartbeats 400000 in
theorem quWins_bad (n : Int) (A : Option Addr) (m cap B : Nat) (f : Nat → Nat) (s : Nat) (w : World) (hB : B ≤ w.heap.size) (hm : m ≤ maxLen) (hr : Rd w B A m (fun j => .int .u32 (f j : Nat))) (hg : quCode n f m s ≠ 0) :
    Calls Try.prog 17 #[.int .i64 n, .slice A m cap, .int .u32 s] w fun e w' => e = .returned (.tuple #[.bool false, .int .i64 (quCode n f m s)]) ∧ Below w.heap.size w w' := by
  have HM := Lib.hid hm; clear hm
  have HR := Lib.hid hr; clear hr
  have hb' : (quCode n f m s == 0) = false := beq_eq_false_iff_ne.2 hg
  clear hg
  go_enter Try.func17, Try.ntmps17
  go_wp2_with fail
  refine (quWrong_any n A m cap B f s _ hB HM.out HR.out).mono ?_
  rintro e w1 ⟨rfl, hb1⟩
  have HB1 := Lib.hid hb1; clear hb1
  go_wp2
  go_ret2
  exact ⟨rfl, HB1.out⟩
theorem quWins_is (b : Bool) (n : Int) (A : Option Addr) (m cap B : Nat) (f : Nat → Nat) (s : Nat) (w : World) (hB : B ≤ w.heap.size) (hm : m ≤ maxLen) (hr : Rd w B A m (fun j => .int .u32 (f j : Nat))) (hg : quCode n f m s = 0) (hb : winsB f m s = b) :
    Calls Try.prog 17 #[.int .i64 n, .slice A m cap, .int .u32 s] w fun e w' => e = .returned (.tuple #[.bool b, .int .i64 0]) ∧ Below w.heap.size w w' := by
  rw [← hb]; exact quWins_good n A m cap B f s w hB hm hr hg

theorem sub32_iff {x s : Nat} (hx : x < 4294967296) (hs : s < 4294967296) : sub32 x s = true ↔ ∀ i, x.testBit i = true → s.testBit i = true := andNot_zero hx hs
theorem quCode_ok {n : Int} {f : Nat → Nat} {m s : Nat} (h : quCode n f m s = 0) : quSize n m ∧ (∀ j, j < m → f j ≠ 0 ∧ f j < 2 ^ n.toNat) ∧ s < 2 ^ n.toNat := by
  by_cases hs : quSize n m
  · rw [quCode, if_pos hs] at h
    cases hb : setBad n.toNat f m
    · rw [hb] at h
      by_cases hg : 2 ^ n.toNat ≤ s
      · simp [hg] at h
      · refine ⟨hs, fun j hj => ?_, by omega⟩
        have := anyTo_no.1 hb j hj
        simp [setOdd] at this
        exact ⟨this.1, this.2⟩
    · rw [hb] at h; simp at h
  · rw [quCode_size hs] at h; cases h
theorem quCode_mk {n : Nat} {f : Nat → Nat} {m s : Nat} (hs : quSize n m) (hf : ∀ j, j < m → f j ≠ 0 ∧ f j < 2 ^ n) (hl : s < 2 ^ n) : quCode n f m s = 0 :=
  quCode_good hs (anyTo_no.2 fun j hj => by have := hf j hj; simp [setOdd, this.1]; omega) hl
end Go.Proofs.Ytgjmnnbcclgahaa
