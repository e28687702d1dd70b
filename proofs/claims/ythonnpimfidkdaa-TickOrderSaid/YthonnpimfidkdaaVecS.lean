/- The walks of vector.Join and Less, and of the document's check. -/
import Derived.Test.YthonnpimfidkdaaLay
import Derived.Test.YthonnpimfidkdaaText
set_option linter.unusedVariables false
set_option linter.unusedSimpArgs false
namespace Go.Proofs.Ythonnpimfidkdaa
open Go.RowKit

abbrev numV (f : Nat → Int) : Nat → Value := fun i => .int .i64 (f i)
def negB (f : Nat → Int) (n : Nat) : Bool := anyTo (fun j => decide (f j < 0)) n
def vecCode (f : Nat → Int) (n : Nat) (g : Nat → Int) (m : Nat) : Int := if 1 ≤ n ∧ n ≤ 6 then (if m = n then (if negB f n || negB g m then 4 else 0) else 3) else 1
theorem vecCode_0 {f : Nat → Int} {n : Nat} {g : Nat → Int} {m : Nat} (h : vecCode f n g m = 0) : (1 ≤ n ∧ n ≤ 6) ∧ m = n ∧ negB f n = false ∧ negB g m = false := by
  unfold vecCode at h
  split at h
  case isFalse => cases h
  rename_i h1
  split at h
  case isFalse => cases h
  rename_i h2
  split at h
  case isTrue => cases h
  rename_i h3
  cases ha : negB f n <;> cases hb : negB g m <;> simp_all
theorem vecCode_mk {f : Nat → Int} {n : Nat} {g : Nat → Int} (h1 : 1 ≤ n ∧ n ≤ 6) (h2 : negB f n = false) (h3 : negB g n = false) : vecCode f n g n = 0 := by
  rw [vecCode, if_pos h1, if_pos rfl, h2, h3]; rfl
theorem negB_max {f g : Nat → Int} {n : Nat} (h : negB f n = false) : negB (fun i => max (f i) (g i)) n = false := by
  refine anyTo_no.2 fun j hj => decide_eq_false ?_
  have := anyTo_no.1 h j hj
  simp only [decide_eq_false_iff_not] at this
  simp only; omega
def minV (f : Nat → Int) : Nat → Int
  | 0 => f 0
  | k + 1 => min (minV f k) (f (k + 1))
theorem minV_neg (f : Nat → Int) : ∀ k, decide (minV f k < 0) = negB f (k + 1)
  | 0 => by rw [Bool.eq_iff_iff]; simp [minV, negB, anyTo]; exact decide_eq_true_iff
  | k + 1 => by
    have ih := minV_neg f k
    show decide (min (minV f k) (f (k + 1)) < 0) = (anyTo (fun j => decide (f j < 0)) (k + 1) || decide (f (k + 1) < 0))
    rw [show anyTo (fun j => decide (f j < 0)) (k + 1) = negB f (k + 1) from rfl, ← ih, ← Bool.decide_or]
    congr 1
    rw [eq_iff_iff]; omega
theorem vimin (a b : Int) : (if b < a then b else a) = min a b := by omega
theorem vimax (a b : Int) : (if a < b then b else a) = max a b := by omega
theorem infoIV : (Try.prog.info? 3).map (fun i => (i.zero, i.size, i.bytes)) = some (some (.int .i64 0), 1, 8) := by kernel_rfl

set_option maxHeartbeats 400000 in
theorem min_any (n cap B : Nat) (A : Option Addr) (f : Nat → Int) (w : World) (hn : 1 ≤ n ∧ n ≤ 6) (hr : Rd w B A n (numV f)) :
    Calls Try.prog 26 #[.slice A n cap] w (Gives fun v w' => ∃ x : Int, v = .int .i64 x ∧ decide (x < 0) = negB f n ∧ w = w') := by
  obtain ⟨hn1, hn6⟩ := hn
  obtain ⟨ad, rfl, _, hc⟩ := hr (by omega)
  have HC := Lib.hid hc
  have h0 : w.cell? ad = some (.int .i64 (f 0)) := by have := hc 0 (by omega); simpa [Addr.add] using this
  clear hc hr
  go_enter Try.func26, Try.ntmps26
  go_wp2
  clear h0
  go_loop [4, 3] (fun i m => ∃ k : Nat, k + 1 ≤ n ∧ i = .int .i64 ((k + 1 : Nat) : Int) ∧ m = .int .i64 (minV f k)) (fun i _ => n - (intOf i).toNat)
  case atStart => exact ⟨0, by omega, rfl, rfl⟩
  case round =>
    obtain ⟨k, hk, rfl, rfl⟩ := hrel
    by_cases hlt : k + 1 < n
    · have hck : w.cell? ⟨ad.block, ad.off + (k + 1), none⟩ = some (.int .i64 (f (k + 1))) := by have := HC.out (k + 1) hlt; simpa [Addr.add] using this
      have HM : Hid (minV f (k + 1) = min (minV f k) (f (k + 1))) := rfl
      go_wp2
      go_round
      case rel => exact ⟨k + 1, by omega, by go_num, by rw [HM.out, vimin]⟩
      case measure => simp [intOf]; omega
    · obtain rfl : k + 1 = n := by omega
      have HM := Lib.hid (minV_neg f k)
      go_wp2
      go_ret
      exact ⟨_, rfl, _, rfl, HM.out, rfl⟩

end Go.Proofs.Ythonnpimfidkdaa
