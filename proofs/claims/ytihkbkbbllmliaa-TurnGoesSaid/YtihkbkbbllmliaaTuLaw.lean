/- turn.Play, for the laws. -/
import Derived.Test.YtihkbkbbllmliaaTu5
import Derived.Test.YtihkbkbbllmliaaPlayed
set_option linter.unusedVariables false
set_option linter.unusedSimpArgs false
namespace Go.Proofs.Ytihkbkbbllmliaa
open Go.RowKit Go.Maps Go.MapKept

set_option maxRecDepth 100000 in
set_option maxHeartbeats 1600000 in
theorem tu_bad (n : Int) (m cap : Nat) (A : Option Addr) (w : World) (hm : m ≤ maxLen) (hb : playedB n m = false) :
    Calls Try.prog 9 #[.int .i64 n, .slice A m cap] w fun e w' => e = .returned (.tuple #[.agg #[.slice none 0 0, .int .u32 0, .int .u32 0, .int .i64 0], .int .i64 1]) ∧ Below w.heap.size w w' := by
  unfold maxLen at hm
  have h' : n < 1 ∨ 6 < n ∨ 60 < (m : Int) := by
    have : ¬ (1 ≤ n ∧ n ≤ 6 ∧ (m : Int) ≤ 60) := fun h => by rw [playedB_iff.2 h] at hb; cases hb
    omega
  clear hb
  go_enter Try.func9, Try.ntmps9
  go_wp2
  all_goals first
    | (exfalso; omega)
    | ((try simp only [Exit.inBlock, Exit.then]); refine bodyPost_ret (v := .tuple #[.agg #[.slice none 0 0, .int .u32 0, .int .u32 0, .int .i64 0], .int .i64 1]) (by simp [results, Try.results9, go_sem]) rfl ?_; exact ⟨rfl, (Below.refl _ _).alloc (Nat.le_refl _) _⟩)
theorem popTo_none {a : Nat} : ∀ {m : Nat}, (∀ i, i < m → a.testBit i = false) → popTo a m = 0
  | 0, _ => rfl
  | m + 1, h => by rw [popTo, popTo_none fun i hi => h i (by omega), h m (by omega)]; rfl
theorem popTo_one {a : Nat} (h : ∀ i j, a.testBit i = true → a.testBit j = true → i = j) : ∀ m, popTo a m ≤ 1
  | 0 => Nat.zero_le _
  | m + 1 => by
    rw [popTo]
    cases hb : a.testBit m
    · have := popTo_one h m
      simpa using this
    · rw [popTo_none fun i hi => by
        cases hi2 : a.testBit i
        · rfl
        · have := h i m hi2 hb; omega]
      simp
theorem in_bit {n : Nat} {s : TS} {j : Nat} : (inT s n).testBit j = (decide (j < n) && (s.p j).inn) := wordP_bit _ n j
theorem want_bit {n : Nat} {s : TS} {j : Nat} : (wantT s n).testBit j = (decide (j < n) && decide (0 < (s.p j).ask)) := wordP_bit _ n j
theorem in_32 {n : Nat} (s : TS) (hn : n ≤ 6) : inT s n < 4294967296 ∧ wantT s n < 4294967296 := by
  have h1 : inT s n < 2 ^ n := wordP_lt _ _
  have h2 : wantT s n < 2 ^ n := wordP_lt _ _
  have := pow64 hn
  exact ⟨by omega, by omega⟩
theorem in_one {n : Nat} {s : TS} (h : TJ n s) : pop (inT s n) ≤ 1 := popTo_one (fun i j hi hj => by
  rw [in_bit] at hi hj
  simp at hi hj
  exact h.one hi.2 hj.2) 32
theorem in_apart {n : Nat} {s : TS} (h : TJ n s) (hn : n ≤ 6) : (bits .and .u32 (inT s n : Int) (wantT s n : Int) == 0) = true :=
  (and_zero (in_32 s hn).1 (in_32 s hn).2).2 fun i hi => by
    rw [in_bit] at hi
    simp at hi
    rw [want_bit, h.apart hi.2]; simp
end Go.Proofs.Ytihkbkbbllmliaa
