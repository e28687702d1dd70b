/- The walk of fresh. -/
import Derived.Test.YtoakgoigamigjaaCo2
import Derived.Test.YtoakgoigamigjaaCo3
set_option linter.unusedVariables false
set_option linter.unusedSimpArgs false
namespace Go.Proofs.Ytoakgoigamigjaa
open Go.RowKit

theorem Lay.in3 {w0 w : World} {x a b c : LRow} {L : List LRow} (h : Lay w0 w (x :: a :: b :: c :: L)) : Lay w0 w (a :: b :: c :: x :: L) := by
  refine h.pick (fun k => if k < 3 then k + 1 else if k = 3 then 0 else k) (fun i j _ _ e => ?_) (fun k _ => ?_)
  · repeat' split at e
    all_goals omega
  · rcases k with _ | _ | _ | _ | k
    · rfl
    · rfl
    · rfl
    · rfl
    · rfl
theorem Lay.out3 {w0 w : World} {x a b c : LRow} {L : List LRow} (h : Lay w0 w (a :: b :: c :: x :: L)) : Lay w0 w (a :: b :: c :: L) := by
  refine h.pick (fun k => if k < 3 then k else k + 1) (fun i j _ _ e => ?_) (fun k _ => ?_)
  · split at e <;> split at e <;> omega
  · rcases k with _ | _ | _ | k
    · rfl
    · rfl
    · rfl
    · rfl
def clL (c : Cl) : List Value := [.int .i64 (c.part : Nat), .int .i64 (c.beg : Nat), .bool c.wr, .int .i64 c.val, .int .u32 (c.rch : Nat), .int .i64 (c.many : Nat), .int .i64 (c.bs : Nat), .int .i64 c.bv]
theorem vmax0 (v : Int) : (if v < 0 then 0 else v) = max v 0 := by omega
set_option maxHeartbeats 800000 in
theorem fresh_any (k f t v : Int) (now : Nat) (w : World) : Calls Try.prog 18 #[.agg #[.int .i64 k, .int .i64 f, .int .i64 t, .int .i64 v], .int .i64 now] w
    (Gives fun u w' => ∃ gx, u = .pointer (some ⟨gx, 0, none⟩) ∧ Lay w w' [blk gx 48 8 (ofL (clL (openC now v)))]) := by
  have HL := Lib.hid (((Lay.nil w).alloc (.cells #[.int .i64 k, .int .i64 f, .int .i64 t, .int .i64 v] 34)).newB (clL (openC now v)) 48 8 rfl (w.heap.size + 1) (size_push _ _).symm)
  have HV : Hid (clL (openC now v) = [.int .i64 1, .int .i64 now, .bool (decide (0 ≤ v)), .int .i64 (max v 0), .int .u32 0, .int .i64 0, .int .i64 0, .int .i64 0]) := rfl
  by_cases hv : 0 ≤ v
  · have hd : decide (0 ≤ v) = true := decide_eq_true hv
    have hm : max v 0 = v := by omega
    rw [hd, hm] at HV
    clear hm hd
    go_enter Try.func18, Try.ntmps18
    go_wp2
    go_ret
    refine ⟨_, rfl, _, rfl, ?_⟩
    have := HL.out
    rw [HV.out] at this ⊢
    exact this
  · have hd : decide (0 ≤ v) = false := decide_eq_false hv
    have hm : max v 0 = 0 := by omega
    rw [hd, hm] at HV
    clear hm hd
    have hv : v < 0 := by omega
    go_enter Try.func18, Try.ntmps18
    go_wp2
    go_ret
    refine ⟨_, rfl, _, rfl, ?_⟩
    have := HL.out
    rw [HV.out] at this ⊢
    exact this
theorem client_no {f : Int} (h : clientB f = false) : f < 0 ∨ 6 ≤ f := by unfold clientB at h; simp at h; omega
theorem client_yes {f : Int} (h : 0 ≤ f ∧ f < 6) : clientB f = true := by unfold clientB; simp [h.1, h.2]
theorem copied_no {n : Nat} {t : Int} (h : copiedB n t = false) : t < 0 ∨ (n : Int) ≤ t := by unfold copiedB at h; simp at h; omega
theorem copied_yes {n : Nat} {t : Int} (h : 0 ≤ t ∧ t < n) : copiedB n t = true := by unfold copiedB; simp [h.1, h.2]
end Go.Proofs.Ytoakgoigamigjaa
