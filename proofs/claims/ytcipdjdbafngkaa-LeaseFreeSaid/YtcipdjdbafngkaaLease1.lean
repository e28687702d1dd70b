/- The walks of lease's small functions. -/
import Derived.Test.YtcipdjdbafngkaaOwn
import Derived.Test.YtcipdjdbafngkaaPlayed
import Derived.Deep.QuietTactic
import Derived.BigQuiet
set_option linter.unusedVariables false
set_option linter.unusedSimpArgs false
namespace Go.Proofs.Ytcipdjdbafngkaa
open Go.RowKit

/-- Are all rates within their bounds? -/
def rateBad (r : Nat → Int) (n : Nat) : Bool := anyTo (fun j => decide (r j < 9) || decide (11 < r j)) n
theorem rateBad_no {r : Nat → Int} {n : Nat} : rateBad r n = false ↔ ∀ j, j < n → 9 ≤ r j ∧ r j ≤ 11 := by
  rw [rateBad, anyTo_no]
  constructor
  · intro h j hj
    have := h j hj
    simp at this; exact this
  · intro h j hj
    have := h j hj
    simp; exact this
theorem rateBad_yes {r : Nat → Int} {n k : Nat} (hk : k < n) (h : r k < 9 ∨ 11 < r k) : rateBad r n = true := by
  cases hb : rateBad r n
  · have := rateBad_no.1 hb k hk; omega
  · rfl
abbrev nums (r : Nat → Int) : Nat → Value := fun j => .int .i64 (r j)

/-- Does 0 keep it; does the other one hold it? -/
def keptB (r : Nat → Int) (term to ago : Int) : Bool := decide (0 < to) && decide (ago * r 0 < term)
def lheldB (r : Nat → Int) (term to ago : Int) : Bool := decide (0 < to) && decide (ago * r to.toNat * 11 < term * 9)

set_option maxHeartbeats 400000 in
theorem kept_any (r : Nat → Int) (n cap B : Nat) (A : Option Addr) (term to ago : Int) (w : World) (hn : 1 ≤ n) (hr : Rd w B A n (nums r)) (h0 : 9 ≤ r 0 ∧ r 0 ≤ 11) (ha : 0 ≤ ago ∧ ago ≤ 60000) :
    Calls Try.prog 17 #[.agg #[.int .i64 to, .int .i64 ago], .slice A n cap, .int .i64 term] w fun e w' => e = .returned (.bool (keptB r term to ago)) ∧ Below w.heap.size w w' := by
  obtain ⟨ad, rfl, hbl, hc⟩ := hr (by omega)
  have hc0 : w.cell? ad = some (.int .i64 (r 0)) := by have := hc 0 (by omega); simpa [Addr.add] using this
  obtain ⟨ha0, ha1⟩ := ha
  obtain ⟨h0, h1⟩ := h0
  have hm0 : 0 ≤ ago * r 0 := Int.mul_nonneg ha0 (by omega)
  have hm1 : ago * r 0 ≤ 60000 * 11 := Int.mul_le_mul ha1 h1 (by omega) (by omega)
  have hni : 0 < n := hn
  clear hc hr
  by_cases ht : 0 < to
  · have hd : decide (0 < to) = true := decide_eq_true ht
    by_cases hk : ago * r 0 < term
    · have hd2 := decide_eq_true hk
      have H : Hid (keptB r term to ago = true) := by show _ = true; simp [keptB, ht, hk]
      go_enter Try.func17, Try.ntmps17
      go_wp2
      have c0 : (w.alloc (.cells #[.int .i64 to, .int .i64 ago] 50)).cell? ⟨w.heap.size, 0, none⟩ = some (.int .i64 to) := World.cell?_alloc_at _ _ _ _ rfl
      have c1 : (w.alloc (.cells #[.int .i64 to, .int .i64 ago] 50)).cell? ⟨w.heap.size, 1, none⟩ = some (.int .i64 ago) := World.cell?_alloc_at _ _ _ _ rfl
      have c2 := (World.cell?_alloc_lt w (.cells #[.int .i64 to, .int .i64 ago] 50) _ (World.block_lt_of_cell? w _ hc0)).trans hc0
      have HB := Lib.hid ((Below.refl w.heap.size w).alloc (Nat.le_refl _) (.cells #[.int .i64 to, .int .i64 ago] 50))
      clear hc0
      generalize w.alloc (.cells #[.int .i64 to, .int .i64 ago] 50) = W at c0 c1 c2 HB ⊢
      go_quiet (fail)
      go_wp2
      go_ret
      exact ⟨ret_bool H.out.symm, HB.out.trans ⟨rfl, rfl, rfl, Nat.le_refl _, fun _ _ => rfl⟩⟩
    · have hd2 := decide_eq_false hk
      have H : Hid (keptB r term to ago = false) := by show _ = false; simp [keptB, hk]
      go_enter Try.func17, Try.ntmps17
      go_wp2
      have c0 : (w.alloc (.cells #[.int .i64 to, .int .i64 ago] 50)).cell? ⟨w.heap.size, 0, none⟩ = some (.int .i64 to) := World.cell?_alloc_at _ _ _ _ rfl
      have c1 : (w.alloc (.cells #[.int .i64 to, .int .i64 ago] 50)).cell? ⟨w.heap.size, 1, none⟩ = some (.int .i64 ago) := World.cell?_alloc_at _ _ _ _ rfl
      have c2 := (World.cell?_alloc_lt w (.cells #[.int .i64 to, .int .i64 ago] 50) _ (World.block_lt_of_cell? w _ hc0)).trans hc0
      have HB := Lib.hid ((Below.refl w.heap.size w).alloc (Nat.le_refl _) (.cells #[.int .i64 to, .int .i64 ago] 50))
      clear hc0
      generalize w.alloc (.cells #[.int .i64 to, .int .i64 ago] 50) = W at c0 c1 c2 HB ⊢
      go_quiet (fail)
      go_wp2
      go_ret
      exact ⟨ret_bool H.out.symm, HB.out.trans ⟨rfl, rfl, rfl, Nat.le_refl _, fun _ _ => rfl⟩⟩
  · have hd : decide (0 < to) = false := decide_eq_false ht
    have H : Hid (keptB r term to ago = false) := by show _ = false; simp [keptB, ht]
    go_enter Try.func17, Try.ntmps17
    go_wp2
    have c0 : (w.alloc (.cells #[.int .i64 to, .int .i64 ago] 50)).cell? ⟨w.heap.size, 0, none⟩ = some (.int .i64 to) := World.cell?_alloc_at _ _ _ _ rfl
    have c1 : (w.alloc (.cells #[.int .i64 to, .int .i64 ago] 50)).cell? ⟨w.heap.size, 1, none⟩ = some (.int .i64 ago) := World.cell?_alloc_at _ _ _ _ rfl
    have c2 := (World.cell?_alloc_lt w (.cells #[.int .i64 to, .int .i64 ago] 50) _ (World.block_lt_of_cell? w _ hc0)).trans hc0
    have HB := Lib.hid ((Below.refl w.heap.size w).alloc (Nat.le_refl _) (.cells #[.int .i64 to, .int .i64 ago] 50))
    clear hc0
    generalize w.alloc (.cells #[.int .i64 to, .int .i64 ago] 50) = W at c0 c1 c2 HB ⊢
    go_quiet (fail)
    go_wp2
    go_ret
    exact ⟨ret_bool H.out.symm, HB.out.trans ⟨rfl, rfl, rfl, Nat.le_refl _, fun _ _ => rfl⟩⟩
set_option maxHeartbeats 400000 in
theorem held_any (r : Nat → Int) (n cap B : Nat) (A : Option Addr) (term : Int) (to : Nat) (ago : Int) (w : World) (hn : 1 ≤ n ∧ n ≤ 6) (ht : to < n) (hr : Rd w B A n (nums r)) (h0 : 9 ≤ r to ∧ r to ≤ 11) (ha : 0 ≤ ago ∧ ago ≤ 60000) (htm : 1 ≤ term ∧ term ≤ 99) :
    Calls Try.prog 18 #[.agg #[.int .i64 to, .int .i64 ago], .slice A n cap, .int .i64 term] w fun e w' => e = .returned (.bool (lheldB r term to ago)) ∧ Below w.heap.size w w' := by
  obtain ⟨ad, rfl, hbl, hc⟩ := hr (by omega)
  have hc0 := hc to ht
  obtain ⟨ha0, ha1⟩ := ha
  obtain ⟨h0, h1⟩ := h0
  have hm0 : 0 ≤ ago * r to := Int.mul_nonneg ha0 (by omega)
  have hm1 : ago * r to ≤ 60000 * 11 := Int.mul_le_mul ha1 h1 (by omega) (by omega)
  obtain ⟨hn1, hn6⟩ := hn
  obtain ⟨ht1, ht9⟩ := htm
  have hni : (to : Int) < (n : Int) := by omega
  clear hc hr
  by_cases ht : (0 : Int) < (to : Int)
  · have hd : decide (0 < to) = true := decide_eq_true (by omega)
    by_cases hk : ago * r to * 11 < term * 9
    · have hd2 := decide_eq_true hk
      have H : Hid (lheldB r term to ago = true) := by show _ = true; simp only [lheldB, Int.toNat_natCast]; simp [hk]; omega
      go_enter Try.func18, Try.ntmps18
      go_wp2
      have c0 : (w.alloc (.cells #[.int .i64 to, .int .i64 ago] 50)).cell? ⟨w.heap.size, 0, none⟩ = some (.int .i64 to) := World.cell?_alloc_at _ _ _ _ rfl
      have c1 : (w.alloc (.cells #[.int .i64 to, .int .i64 ago] 50)).cell? ⟨w.heap.size, 1, none⟩ = some (.int .i64 ago) := World.cell?_alloc_at _ _ _ _ rfl
      have c2 := (World.cell?_alloc_lt w (.cells #[.int .i64 to, .int .i64 ago] 50) _ (World.block_lt_of_cell? w _ hc0)).trans hc0
      have HB := Lib.hid ((Below.refl w.heap.size w).alloc (Nat.le_refl _) (.cells #[.int .i64 to, .int .i64 ago] 50))
      clear hc0
      generalize w.alloc (.cells #[.int .i64 to, .int .i64 ago] 50) = W at c0 c1 c2 HB ⊢
      go_quiet (fail)
      go_wp2
      go_ret
      exact ⟨ret_bool H.out.symm, HB.out.trans ⟨rfl, rfl, rfl, Nat.le_refl _, fun _ _ => rfl⟩⟩
    · have hd2 := decide_eq_false hk
      have H : Hid (lheldB r term to ago = false) := by show _ = false; simp only [lheldB, Int.toNat_natCast]; simp [hk]
      go_enter Try.func18, Try.ntmps18
      go_wp2
      have c0 : (w.alloc (.cells #[.int .i64 to, .int .i64 ago] 50)).cell? ⟨w.heap.size, 0, none⟩ = some (.int .i64 to) := World.cell?_alloc_at _ _ _ _ rfl
      have c1 : (w.alloc (.cells #[.int .i64 to, .int .i64 ago] 50)).cell? ⟨w.heap.size, 1, none⟩ = some (.int .i64 ago) := World.cell?_alloc_at _ _ _ _ rfl
      have c2 := (World.cell?_alloc_lt w (.cells #[.int .i64 to, .int .i64 ago] 50) _ (World.block_lt_of_cell? w _ hc0)).trans hc0
      have HB := Lib.hid ((Below.refl w.heap.size w).alloc (Nat.le_refl _) (.cells #[.int .i64 to, .int .i64 ago] 50))
      clear hc0
      generalize w.alloc (.cells #[.int .i64 to, .int .i64 ago] 50) = W at c0 c1 c2 HB ⊢
      go_quiet (fail)
      go_wp2
      go_ret
      exact ⟨ret_bool H.out.symm, HB.out.trans ⟨rfl, rfl, rfl, Nat.le_refl _, fun _ _ => rfl⟩⟩
  · have hd : decide (0 < to) = false := decide_eq_false (by omega)
    have H : Hid (lheldB r term to ago = false) := by show _ = false; simp [lheldB]; omega
    go_enter Try.func18, Try.ntmps18
    go_wp2
    have c0 : (w.alloc (.cells #[.int .i64 to, .int .i64 ago] 50)).cell? ⟨w.heap.size, 0, none⟩ = some (.int .i64 to) := World.cell?_alloc_at _ _ _ _ rfl
    have c1 : (w.alloc (.cells #[.int .i64 to, .int .i64 ago] 50)).cell? ⟨w.heap.size, 1, none⟩ = some (.int .i64 ago) := World.cell?_alloc_at _ _ _ _ rfl
    have c2 := (World.cell?_alloc_lt w (.cells #[.int .i64 to, .int .i64 ago] 50) _ (World.block_lt_of_cell? w _ hc0)).trans hc0
    have HB := Lib.hid ((Below.refl w.heap.size w).alloc (Nat.le_refl _) (.cells #[.int .i64 to, .int .i64 ago] 50))
    clear hc0
    generalize w.alloc (.cells #[.int .i64 to, .int .i64 ago] 50) = W at c0 c1 c2 HB ⊢
    go_quiet (fail)
    go_wp2
    go_ret
    exact ⟨ret_bool H.out.symm, HB.out.trans ⟨rfl, rfl, rfl, Nat.le_refl _, fun _ _ => rfl⟩⟩

set_option maxHeartbeats 400000 in
theorem rateC_any (x : Int) (w : World) : Calls Try.prog 16 #[.int .i64 x] w fun e w' => e = .returned (.bool (decide (x < 9) || decide (11 < x))) ∧ w = w' := by
  obtain ⟨b, hb⟩ : ∃ b, (decide (x < 9) || decide (11 < x)) = b := ⟨_, rfl⟩
  rw [hb]
  by_cases h0 : x < 9
  · have H : Hid (b = true) := by show b = true; rw [← hb]; simp [h0]
    clear hb
    go_enter Try.func16, Try.ntmps16
    go_wp2
    go_ret
    exact ⟨ret_bool H.out.symm, rfl⟩
  · have H : Hid (decide (11 < x) = b) := by show _ = b; rw [← hb]; simp [h0]
    clear hb
    go_enter Try.func16, Try.ntmps16
    go_wp2
    go_ret
    exact ⟨ret_bool H.out, rfl⟩
set_option maxHeartbeats 400000 in
theorem rateIdx_any (r : Nat → Int) (n cap B : Nat) (A : Option Addr) (w : World) (hm : n ≤ maxLen) (hr : Rd w B A n (nums r)) :
    Calls Try.prog 21 #[.slice A n cap, .func (.func 16) #[] #[]] w fun e w' => ∃ i : Int, e = .returned (.int .i64 i) ∧ decide (0 ≤ i) = rateBad r n ∧ w = w' := by
  unfold maxLen at hm
  have HR := Lib.hid hr; clear hr
  go_enter Try.func21, Try.ntmps21
  go_wp2
  go_loop [8] (fun i => ∃ k : Nat, k ≤ n ∧ i = .int .i64 k ∧ ∀ j, j < k → 9 ≤ r j ∧ r j ≤ 11) (fun i => n - (intOf i).toNat)
  case atStart => exact ⟨0, by omega, rfl, fun j hj => absurd hj (by omega)⟩
  case round =>
    obtain ⟨k, hk, rfl, hall⟩ := hrel
    have HA := Lib.hid hall; clear hall
    by_cases hlt : k < n
    · obtain ⟨ad, rfl, _, hc⟩ := HR.out (by omega)
      have hck := hc k hlt
      clear hc
      cases hq : (decide (r k < 9) || decide (11 < r k))
      · have HQ := Lib.hid hq
        have HK : Hid (9 ≤ r k ∧ r k ≤ 11) := by show _ ∧ _; simp at hq; omega
        clear hq
        go_wp2_with (go_at_call 16; refine (bool_is (rateC_any (r k) _) HQ.out).mono ?_; rintro e w' ⟨rfl, rfl⟩)
        go_round
        case rel => exact ⟨k + 1, by omega, by go_num, fun j hj => (Nat.lt_succ_iff_lt_or_eq.1 hj).elim (HA.out j) (fun e => by subst e; exact HK.out)⟩
        case measure => simp [intOf]; omega
      · have HQ := Lib.hid hq
        have HK : Hid (rateBad r n = true) := rateBad_yes hlt (by simp at hq; omega)
        clear hq
        go_wp2_with (go_at_call 16; refine (bool_is (rateC_any (r k) _) HQ.out).mono ?_; rintro e w' ⟨rfl, rfl⟩)
        go_ret
        exact ⟨_, rfl, by rw [HK.out]; simp, rfl⟩
    · obtain rfl : k = n := by omega
      have HK : Hid (rateBad r k = false) := rateBad_no.2 HA.out
      go_wp2
      go_ret
      exact ⟨_, rfl, by rw [HK.out]; simp, rfl⟩
theorem contains_any (r : Nat → Int) (n cap B : Nat) (A : Option Addr) (w : World) (hm : n ≤ maxLen) (hr : Rd w B A n (nums r)) :
    Calls Try.prog 15 #[.slice A n cap, .func (.func 16) #[] #[]] w fun e w' => e = .returned (.bool (rateBad r n)) ∧ w = w' := by
  unfold maxLen at hm
  have HI := Lib.hid (rateIdx_any r n cap B A w hm hr); clear hr
  go_enter Try.func15, Try.ntmps15
  go_wp2_with fail
  refine HI.out.mono ?_
  rintro e w1 ⟨i, rfl, hi, rfl⟩
  have HJ := Lib.hid hi; clear hi
  go_wp2
  go_ret
  exact ⟨ret_bool HJ.out, rfl⟩

/-- The answer of 'leased'. -/
def leasedB (r : Nat → Int) (n : Nat) (term m : Int) : Bool := playedB n m && decide (1 ≤ term) && decide (term ≤ 99) && !rateBad r n
theorem leasedB_iff {r : Nat → Int} {n : Nat} {term m : Int} : leasedB r n term m = true ↔ ((1 ≤ n ∧ n ≤ 6) ∧ m ≤ 60) ∧ (1 ≤ term ∧ term ≤ 99) ∧ ∀ j, j < n → 9 ≤ r j ∧ r j ≤ 11 := by
  rw [leasedB]
  simp only [Bool.and_eq_true, Bool.not_eq_true', playedB_iff, rateBad_no, decide_eq_true_iff]
  constructor
  · rintro ⟨⟨⟨h1, h2⟩, h3⟩, h4⟩
    exact ⟨⟨by omega, by omega⟩, ⟨h2, h3⟩, h4⟩
  · rintro ⟨⟨h1, h2⟩, ⟨h3, h4⟩, h5⟩
    exact ⟨⟨⟨⟨by omega, by omega, h2⟩, h3⟩, h4⟩, h5⟩
set_option maxHeartbeats 400000 in
theorem leased_any (r : Nat → Int) (n cap B : Nat) (A : Option Addr) (term m : Int) (w : World) (hm : n ≤ maxLen) (hr : Rd w B A n (nums r)) :
    Calls Try.prog 9 #[.slice A n cap, .int .i64 term, .int .i64 m] w fun e w' => e = .returned (.bool (leasedB r n term m)) ∧ w = w' := by
  unfold maxLen at hm
  by_cases hp : playedB n m = true ∧ 1 ≤ term ∧ term ≤ 99
  · have HP := Lib.hid hp.1
    obtain ⟨hp0, ht1, ht9⟩ := hp
    have hn := playedB_iff.1 hp0
    clear hp0
    have H : Hid (leasedB r n term m = !rateBad r n) := by show _ = _; rw [leasedB, HP.out]; simp [ht1, ht9]
    have HR := Lib.hid hr; clear hr
    go_enter Try.func9, Try.ntmps9
    go_wp2_with fail
    refine (bool_is (played_any n m w) HP.out).mono ?_
    rintro e w1 ⟨rfl, rfl⟩
    go_wp2
    go_loop [24] (fun i => ∃ k : Nat, k ≤ n ∧ i = .int .i64 k ∧ ∀ j, j < k → 9 ≤ r j ∧ r j ≤ 11) (fun i => n - (intOf i).toNat)
    case atStart => exact ⟨0, by omega, rfl, fun j hj => absurd hj (by omega)⟩
    case round =>
      obtain ⟨k, hk, rfl, hall⟩ := hrel
      have HA := Lib.hid hall; clear hall
      by_cases hlt : k < n
      · obtain ⟨ad, rfl, _, hc⟩ := HR.out (by omega)
        have hck := hc k hlt
        clear hc
        by_cases hb : 9 ≤ r k ∧ r k ≤ 11
        · obtain ⟨hb1, hb2⟩ := hb
          go_wp2
          go_round
          case rel => exact ⟨k + 1, by omega, by go_num, fun j hj => (Nat.lt_succ_iff_lt_or_eq.1 hj).elim (HA.out j) (fun e => by subst e; omega)⟩
          case measure => simp [intOf]; omega
        · have hb' : r k < 9 ∨ 11 < r k := by omega
          have HB := Lib.hid (rateBad_yes hlt hb')
          clear hb
          go_wp2
          all_goals first | (go_ret; exact ⟨ret_bool (by rw [H.out, HB.out]; rfl), rfl⟩) | (exfalso; omega)
      · have HB := Lib.hid (rateBad_no.2 fun j hj => HA.out j (by omega) : rateBad r n = false)
        go_wp2
        go_ret
        exact ⟨ret_bool (by rw [H.out, HB.out]; rfl), rfl⟩
  · obtain ⟨b, hb⟩ : ∃ b, playedB n m = b := ⟨_, rfl⟩
    have HP := Lib.hid hb
    have H : Hid (leasedB r n term m = false) := by
      show _ = false
      rw [← Bool.not_eq_true, leasedB]
      simp only [Bool.and_eq_true, decide_eq_true_iff]
      exact fun h => hp ⟨h.1.1.1, h.1.1.2, h.1.2⟩
    have h' : b = false ∨ term < 1 ∨ 99 < term := by
      cases b
      · exact .inl rfl
      · refine .inr ?_
        have := fun h1 h2 => hp ⟨hb, h1, h2⟩
        by_cases h1 : 1 ≤ term
        · exact .inr (Int.not_le.1 (this h1))
        · exact .inl (by omega)
    clear hb hp hr
    cases b
    · clear h'
      go_enter Try.func9, Try.ntmps9
      go_wp2_with fail
      refine (bool_is (played_any n m w) HP.out).mono ?_
      rintro e w1 ⟨rfl, rfl⟩
      go_wp2
      go_ret
      exact ⟨ret_bool H.out.symm, rfl⟩
    · have h'' : term < 1 ∨ 99 < term := by simpa using h'
      clear h'
      go_enter Try.func9, Try.ntmps9
      go_wp2_with fail
      refine (bool_is (played_any n m w) HP.out).mono ?_
      rintro e w1 ⟨rfl, rfl⟩
      go_wp2
      all_goals first | (go_ret; exact ⟨ret_bool H.out.symm, rfl⟩) | (exfalso; omega)
end Go.Proofs.Ytcipdjdbafngkaa
