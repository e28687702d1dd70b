/- token's state and its first laws, without a program. -/
import Derived.Test.YtihkbkbbllmliaaWayQ
set_option linter.unusedVariables false
set_option linter.unusedSimpArgs false
namespace Go.Proofs.Ytihkbkbbllmliaa

structure KS where
  pt : Nat → Nat
  row : Nat → List Nat
  has : Int
  inn : Int
  way : Nat × Nat → List Bool
def KS0 (v : Nat → Nat) (r : Nat) : KS := ⟨v, fun _ => [], r, -1, fun _ => []⟩
def sendK (f t : Nat) (b : Bool) (s : KS) : KS := { s with way := qput s.way (f, t) (s.way (f, t) ++ [b]) }
def passK (i to : Nat) (l : List Nat) (s : KS) : KS := sendK i to true { s with row := upd s.row i l, has := -1, pt := upd s.pt i to }
def giveK (i : Nat) (s : KS) : KS :=
  if s.has ≠ i ∨ s.inn = i then s
  else match s.row i with
  | [] => s
  | to :: l => if to = i then { s with row := upd s.row i l, inn := i } else if l = [] then passK i to l s else sendK i to false (passK i to l s)
def addK (i who : Nat) (s : KS) : KS := { s with row := upd s.row i (s.row i ++ [who]) }
def askK (i : Nat) (s : KS) : KS := if (s.row i).length = 1 ∧ s.pt i ≠ i then sendK i (s.pt i) false s else s
def standK (i who : Nat) (s : KS) : KS := giveK i (askK i (addK i who s))
def popK (f t : Nat) (l : List Bool) (s : KS) : KS := { s with way := qput s.way (f, t) l }
def comeK (f t : Nat) (s : KS) : Int × KS := match s.way (f, t) with
  | [] => (5, s)
  | b :: l => (0, if b = true then giveK t { popK f t l s with has := t, pt := upd s.pt t t } else standK t f (popK f t l s))
def tkBad (n : Nat) (k f t : Int) : Bool := !(decide (0 ≤ f) && decide (f < n)) || (k == 2 && (!(decide (0 ≤ t) && decide (t < n)) || f == t))
def tkStep (n : Nat) (k f t : Int) (s : KS) : Int × KS :=
  if k < 1 ∨ 3 < k then (6, s)
  else if tkBad n k f t then (2, s)
  else if k = 2 then comeK f.toNat t.toNat s
  else if k = 1 then (if s.inn = f ∨ f.toNat ∈ s.row f.toNat then (7, s) else (0, standK f.toNat f.toNat s))
  else if s.inn ≠ f then (7, s) else (0, giveK f.toNat { s with inn := -1 })
def tkE (n : Nat) (v : Nat → Nat) (r : Nat) (M : Mv) : Nat → KS
  | 0 => KS0 v r
  | j + 1 => (tkStep n (M.k j) (M.f j) (M.t j) (tkE n v r M j)).2
def tkC (n : Nat) (v : Nat → Nat) (r : Nat) (M : Mv) (j : Nat) : Int := (tkStep n (M.k j) (M.f j) (M.t j) (tkE n v r M j)).1
/-- What the walk and the first law ask. -/
structure KI (n m : Nat) (s : KS) : Prop where
  pt : ∀ i, i < n → s.pt i < n
  row : ∀ i x, x ∈ s.row i → x < n
  rl : ∀ i, (s.row i).length ≤ m
  wl : ∀ p, (s.way p).length ≤ 2 * m
  one : ∀ i, (s.row i).count i ≤ 1
  out : ∀ i : Nat, s.inn = i → i ∉ s.row i
  inn : -1 ≤ s.inn ∧ s.inn < n
  has : -1 ≤ s.has ∧ s.has < n
end Go.Proofs.Ytihkbkbbllmliaa
