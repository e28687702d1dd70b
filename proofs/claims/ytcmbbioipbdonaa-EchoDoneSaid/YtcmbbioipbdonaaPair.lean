/- '==' on two values of [2]int. -/
import Derived.Test.YtcmbbioipbdonaaWords
import Derived.ChangeKeysEq
import Derived.Laws.StructEq
set_option linter.unusedVariables false
set_option linter.unusedSimpArgs false
namespace Go.Proofs.Ytcmbbioipbdonaa
open Go.RowKit

theorem infoPairI : (Try.prog.info? 3).map (fun i => (i.zero, i.size, i.bytes)) = some (some (.int .i64 0), 1, 8) := by kernel_rfl
theorem cellsPairI : Try.prog.cellsOf 3 = 1 := by kernel_rfl
theorem pair_eq (w : World) (a b c d : Int) : (Op.equalIn 10000 32 (.agg #[.int .i64 a, .int .i64 b]) (.agg #[.int .i64 c, .int .i64 d])).run Try.prog w = .ok ((a == c) && (b == d)) w := by
  obtain ⟨i, hi, hz0, hz1, hz2⟩ := info_parts infoPairI
  rw [run_equalIn_array (w := w) 9999 _ _ Try.underlying32 hi, cellsPairI]
  have hI : ∀ x y : Int, ∀ W, (Op.equalIn 9999 3 (.int .i64 x) (.int .i64 y)).run Try.prog W = .ok (x == y) W := fun x y W => run_equalIn_int W 9998 _ _ _ x y Try.underlying3
  have hp : Try.prog.plainKey 3 = true := by kernel_rfl
  have e : List.range 2 = [0, 1] := rfl
  have p0 : ∀ (xs : Array Value) v W, xs[0]? = some v → (part 3 xs 0).run Try.prog W = .ok v W := fun xs v W h => run_part_plain (w := W) hp h
  have p1 : ∀ (xs : Array Value) v W, xs[1]? = some v → (part 3 xs 1).run Try.prog W = .ok v W := fun xs v W h => run_part_plain (w := W) hp h
  have q0 : ∀ (x y : Int) W, (part 3 #[.int .i64 x, .int .i64 y] 0).run Try.prog W = .ok (.int .i64 x) W := fun x y W => p0 _ _ W rfl
  have q1 : ∀ (x y : Int) W, (part 3 #[.int .i64 x, .int .i64 y] 1).run Try.prog W = .ok (.int .i64 y) W := fun x y W => p1 _ _ W rfl
  rw [e]
  simp only [Op.eqItems, Sem.run_bind, Nat.zero_mul, Nat.one_mul, q0, Result.andThen_ok, hI]
  obtain ⟨x, hx⟩ : ∃ x, (a == c) = x := ⟨_, rfl⟩
  rw [hx]
  cases x
  · rfl
  · simp only [Bool.not_true, Bool.false_eq_true, if_false, Sem.run_bind, Nat.one_mul, q1, Result.andThen_ok, hI]
    obtain ⟨y, hy⟩ : ∃ y, (b == d) = y := ⟨_, rfl⟩
    rw [hy]
    cases y <;> rfl
end Go.Proofs.Ytcmbbioipbdonaa
