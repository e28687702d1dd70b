/- Bit and Size inside a region that draws its order. -/
import Derived.Test.YteocheaihbifaaaPop
import Derived.Deep.QuietTactic
import Derived.BigQuiet
set_option linter.unusedVariables false
set_option linter.unusedSimpArgs false
namespace Go.Proofs.Yteocheaihbifaaa
open Go.RowKit

theorem bit_quiet (b : Bool) (a : Nat) (i : Int) (w : World) (n : Nat) (ha : a < 4294967296) (hb : bitB a i = b) :
    Calls Try.prog 9 #[.int .u32 a, .int .i64 i] (w.drewN n) fun e w'' => e = .returned (.bool b) ∧ ∃ m, w'' = w.drewN m :=
  Calls.quiet_of_same ((bit_is b a i (w.drewN n) ha hb).mono fun e w' ⟨h1, h2⟩ => ⟨h1, h2.symm⟩)
theorem size_quiet (c a : Nat) (w : World) (n : Nat) (ha : a < 4294967296) (hc : pop a = c) :
    Calls Try.prog 8 #[.int .u32 a] (w.drewN n) fun e w'' => e = .returned (.int .i64 (c : Nat)) ∧ ∃ m, w'' = w.drewN m :=
  Calls.quiet_of_same ((size_is c a (w.drewN n) ha hc).mono fun e w' ⟨h1, h2⟩ => ⟨h1, h2.symm⟩)
end Go.Proofs.Yteocheaihbifaaa
