/- The walk of beaconrykeep.inside. -/
import Derived.Test.YtfdgjbanajodfaaDoorOwn
set_option linter.unusedVariables false
set_option linter.unusedSimpArgs false
namespace Go.Proofs.YtfdgjbanajodfaaDoor
open Go.RowKit

def insideB (n : Int) (f : Nat → Int) (m : Nat) : Bool := !anyTo (fun j => decide (f j < 0) || decide (n ≤ f j)) m
theorem insideB_iff {n : Int} {f : Nat → Int} {m : Nat} : insideB n f m = true ↔ ∀ j, j < m → 0 ≤ f j ∧ f j < n := by
  rw [insideB, Bool.not_eq_true', anyTo_no]
  constructor
  · intro h j hj
    have := h j hj
    simp at this; exact this
  · intro h j hj
    have := h j hj
    simp; exact this
theorem insideB_no {n : Int} {f : Nat → Int} {m k : Nat} (hk : k < m) (h : f k < 0 ∨ n ≤ f k) : insideB n f m = false := by
  rw [← Bool.not_eq_true, insideB_iff]
  intro hh
  have := hh k hk
  omega

set_option maxHeartbeats 400000 in
theorem inside_any (n : Int) (A : Option Addr) (m cap B : Nat) (f : Nat → Int) (w : World) (hm : m ≤ maxLen) (hr : Rd w B A m (fun j => .int .i64 (f j))) :
    Calls Tryd.prog 10 #[.int .i64 n, .slice A m cap] w fun e w' => e = .returned (.bool (insideB n f m)) ∧ w = w' := by
  unfold maxLen at hm
  have HR := Lib.hid hr; clear hr
  go_enter Tryd.func10, Tryd.ntmps10
  go_wp2
  go_loop [9] (fun i => ∃ k : Nat, k ≤ m ∧ i = .int .i64 k ∧ ∀ j, j < k → 0 ≤ f j ∧ f j < n) (fun i => m - (intOf i).toNat)
  case atStart => exact ⟨0, by omega, rfl, fun j hj => absurd hj (by omega)⟩
  case round =>
    obtain ⟨k, hk, rfl, hall⟩ := hrel
    have HA := Lib.hid hall; clear hall
    by_cases hlt : k < m
    · obtain ⟨ad, rfl, _, hc⟩ := HR.out (by omega)
      have hck := hc k hlt
      clear hc
      go_wp2
      all_goals first
        | (go_ret; exact ⟨ret_bool (insideB_no hlt (by omega)).symm, rfl⟩)
        | (go_round
           case rel => exact ⟨k + 1, by omega, by go_num, fun j hj => (Nat.lt_succ_iff_lt_or_eq.1 hj).elim (HA.out j) (fun e => by subst e; omega)⟩
           case measure => simp [intOf]; omega)
    · go_wp2
      go_ret
      exact ⟨ret_bool (insideB_iff.2 fun j hj => HA.out j (by omega)).symm, rfl⟩
theorem inside_is (b : Bool) (n : Int) (A : Option Addr) (m cap B : Nat) (f : Nat → Int) (w : World) (hm : m ≤ maxLen) (hr : Rd w B A m (fun j => .int .i64 (f j))) (hb : insideB n f m = b) :
    Calls Tryd.prog 10 #[.int .i64 n, .slice A m cap] w fun e w' => e = .returned (.bool b) ∧ w = w' := by
  rw [← hb]; exact inside_any n A m cap B f w hm hr
def twoF (i j : Int) : Nat → Int := fun t => if t = 0 then i else j
theorem twoF_cells (i j : Int) : ∀ t, t < 2 → (#[Value.int .i64 i, .int .i64 j])[t]? = some (.int .i64 (twoF i j t)) := by
  intro t ht
  match t, ht with
  | 0, _ => rfl
  | 1, _ => rfl
theorem inside1 (b : Bool) (n i : Int) (w : World) (T : TypeId) (g : Nat) (hg : g = w.heap.size) (hb : (decide (0 ≤ i) && decide (i < n)) = b) :
    Calls Tryd.prog 10 #[.int .i64 n, .slice (some ⟨g, 0, none⟩) 1 1] (w.alloc (.cells #[.int .i64 i] T)) fun e w' => e = .returned (.bool b) ∧ w.alloc (.cells #[.int .i64 i] T) = w' := by
  refine inside_is b n _ 1 1 (g + 1) (fun _ => i) _ (by unfold maxLen; omega) (cell_new _ _ _ _ _ hg (one_cell _)) ?_
  rw [← hb, Bool.eq_iff_iff, insideB_iff, Bool.and_eq_true, decide_eq_true_iff, decide_eq_true_iff]
  exact ⟨fun h => h 0 (by omega), fun h _ _ => h⟩
theorem inside2 (b : Bool) (n i j : Int) (w : World) (T : TypeId) (g : Nat) (hg : g = w.heap.size) (hb : (decide (0 ≤ i) && decide (i < n) && (decide (0 ≤ j) && decide (j < n))) = b) :
    Calls Tryd.prog 10 #[.int .i64 n, .slice (some ⟨g, 0, none⟩) 2 2] (w.alloc (.cells #[.int .i64 i, .int .i64 j] T)) fun e w' => e = .returned (.bool b) ∧ w.alloc (.cells #[.int .i64 i, .int .i64 j] T) = w' := by
  refine inside_is b n _ 2 2 (g + 1) (twoF i j) _ (by unfold maxLen; omega) (cell_new _ _ _ _ _ hg (twoF_cells i j)) ?_
  rw [← hb, Bool.eq_iff_iff, insideB_iff]
  simp only [Bool.and_eq_true, decide_eq_true_iff]
  constructor
  · intro h
    have h0 := h 0 (by omega)
    have h1 := h 1 (by omega)
    simp [twoF] at h0 h1
    exact ⟨h0, h1⟩
  · rintro ⟨h0, h1⟩ t ht
    unfold twoF
    split
    · exact h0
    · exact h1
end Go.Proofs.YtfdgjbanajodfaaDoor
