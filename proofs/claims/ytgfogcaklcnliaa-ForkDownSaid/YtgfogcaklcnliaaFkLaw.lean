/- May links lead? And what a law's links are. -/
import Derived.Test.YtgfogcaklcnliaaFkRunW
import Derived.Test.YtgfogcaklcnliaaInside
import Derived.Test.YtgfogcaklcnliaaFkRef
set_option linter.unusedVariables false
set_option linter.unusedSimpArgs false
namespace Go.Proofs.Ytgfogcaklcnliaa
open Go.RowKit

theorem goodForked {n : Nat} {l : Lk} {A : Option Addr} {m cap : Nat} {w : World} (h : Good n l A m cap w) :
    Calls Try.prog 9 #[.int .i64 (n : Nat), .slice A m cap] w (Gives fun v w' => v = .bool true ∧ Below w.heap.size w w') := by
  obtain ⟨hrg, htw⟩ := (fk_parts _ _ _ _).1 h.ok.fk
  rw [← h.hm] at hrg htw
  have H1 := Lib.hid (lcheck_any n A m cap w.heap.size (fun j => (f1 l j : Nat)) (fun j => (f2 l j : Nat)) w (by have := h.hc; unfold maxLen at *; omega) (Nat.le_refl _) h.rd)
  have H2 := Lib.hid (fun (W : World) (hb : Below w.heap.size w W) => twice_any A m cap w.heap.size (fun j => (f1 l j : Nat)) (fun j => (f2 l j : Nat)) W h.hc hb.size (h.rd.below hb))
  have HRG := Lib.hid hrg
  have HTW := Lib.hid htw
  clear hrg htw h
  go_enter Try.func9, Try.ntmps9
  go_wp2_with fail
  refine H1.out.mono ?_
  rintro e w1 ⟨v, rfl, c, rfl, hc, hb⟩
  obtain rfl : c = 0 := hc.2 HRG.out
  have HB := Lib.hid hb
  clear hc hb
  go_wp2_with fail
  refine (H2.out w1 HB.out).mono ?_
  rintro e w2 ⟨v, rfl, b, rfl, hc, hb⟩
  obtain rfl : b = false := by
    cases b
    · rfl
    · exact absurd HTW.out (hc.1 rfl)
  have HB2 := Lib.hid (HB.out.trans (hb.mono HB.out.size))
  clear hc hb
  go_wp2
  go_ret
  exact ⟨_, rfl, rfl, HB2.out⟩
theorem badForked {n : Int} {A : Option Addr} {m cap : Nat} {w : World} (h : Bad n A m cap w) :
    Calls Try.prog 9 #[.int .i64 n, .slice A m cap] w (Gives fun v w' => v = .bool false ∧ Below w.heap.size w w') := by
  obtain ⟨p, q, hno, hcap, hr⟩ := h.bad
  rw [fk_parts] at hno
  have H1 := Lib.hid (lcheck_any n A m cap w.heap.size p q w (by unfold maxLen at *; omega) (Nat.le_refl _) hr)
  have H2 := Lib.hid (fun (W : World) (hb : Below w.heap.size w W) => twice_any A m cap w.heap.size p q W hcap hb.size (hr.below hb))
  have HNO := Lib.hid hno
  clear hno hr h
  go_enter Try.func9, Try.ntmps9
  go_wp2_with fail
  refine H1.out.mono ?_
  rintro e w1 ⟨v, rfl, c, rfl, hc, hb⟩
  have HB := Lib.hid hb
  have HC := Lib.hid hc
  clear hc hb
  cases h0 : (c == 0)
  · go_wp2
    go_ret
    exact ⟨_, rfl, rfl, HB.out⟩
  · go_wp2_with fail
    refine (H2.out w1 HB.out).mono ?_
    rintro e w2 ⟨v, rfl, b, rfl, hc, hb⟩
    obtain rfl : b = true := by
      cases b
      · have h1 := HC.out.1 (by simpa using h0)
        exact absurd ⟨h1, Classical.byContradiction fun h => by have := hc.2 h; cases this⟩ HNO.out
      · rfl
    have HB2 := Lib.hid (HB.out.trans (hb.mono HB.out.size))
    clear hc hb
    go_wp2
    go_ret
    exact ⟨_, rfl, rfl, HB2.out⟩
/-- A law's links may be, or may not. -/
theorem good_or_bad (n : Int) (A : Option Addr) (m cap : Nat) (p q : Nat → Int) (w : World) (hc : m ≤ cap ∧ cap ≤ maxLen) (hr : Rd w w.heap.size A (m * 2) (recF2 p q)) :
    (∃ (n' : Nat) (l : Lk), n = n' ∧ Good n' l A m cap w) ∨ Bad n A m cap w := by
  by_cases h : FkOk n m p q
  · obtain ⟨n', l, rfl, hm, hok, hpq⟩ := lok_of h
    refine .inl ⟨n', l, rfl, hok, hm, rd_none' hr, hc, hr.congr fun j hj => ?_⟩
    obtain ⟨e1, e2⟩ := hpq (j / 2) (by omega)
    unfold lkR recF2
    dsimp only
    rw [e1, e2]
  · exact .inr ⟨p, q, h, hc, hr⟩
/-- Links that a run has left. -/
theorem good_of_lay {n : Nat} {l : Lk} {A : Option Addr} {cap : Nat} {w0 w : World} {R : List LRow} (k : Nat) (h : Lay w0 w R) (hk : R[k]? = some (lkA A cap l)) (hok : LOk n l) (m : Nat) (hm : m = l.length) : Good n l A m cap w := by
  have ho := h.own k _ hk
  have hrd := h.rd k hk
  have hle := ho.le
  unfold lkA at hrd hle
  dsimp only at hrd hle
  rw [← hm] at hrd hle
  exact ⟨hok, hm, rd_none' hrd, hle, hrd⟩
end Go.Proofs.Ytgfogcaklcnliaa
