/- The law TreeSet. -/
import Derived.Test.YtfkfljiinnlilaaDoorTrSet
import Derived.Test.YtfkfljiinnlilaaDoorTrOpen
set_option linter.unusedVariables false
set_option linter.unusedSimpArgs false
namespace Go.Proofs.YtfkfljiinnlilaaDoor
open Go.RowKit
theorem treeSet_all (A : Option Addr) (n cap : Nat) (D : Nat → Deed) (p x : Str) (dv : Int) (w : World) (hb : n ≤ cap ∧ cap * 48 ≤ 140737488351232) (hD : ∀ i, i < n → DeedL (D i)) (hp : p.length ≤ 140737488351232) (hx : x.length ≤ 140737488351232) (hr : Rd w w.heap.size A (n * 4) (ddF D)) :
    Calls Tryd.prog 4 #[.slice A n cap, .string (bs p), .string (bs x), .int .i64 dv] w fun e w' => e = .returned (.bool true) ∧ Below w.heap.size w w' := by
  rcases Nat.lt_or_ge 58 n with h | h
  · exact treeSet_bad n cap A D p x dv w h (by omega) hr
  · exact treeSet_good n cap A D p x dv w h hD hp hx hr
end Go.Proofs.YtfkfljiinnlilaaDoor
