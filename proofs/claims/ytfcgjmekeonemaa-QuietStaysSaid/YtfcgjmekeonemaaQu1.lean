/- The walk of quiet's 'loose'. -/
import Derived.Test.YtfcgjmekeonemaaQuMath
import Derived.Test.YtfcgjmekeonemaaKeyP
import Derived.Test.YtfcgjmekeonemaaShr
import Derived.Test.YtfcgjmekeonemaaHeld
import Derived.BigQuiet
import Derived.Deep.QuietTactic
import Derived.Deep.LoopGhost
set_option linter.unusedVariables false
set_option linter.unusedSimpArgs false
namespace Go.Proofs.Ytfcgjmekeonemaa
open Go.RowKit Go.Maps Go.MapKept

/-- The map's entries: what is on the way. -/
def wayφ (n : Nat) (m : Nat) (s : QS) (es : Array MapEntry) (c : Nat) : Prop := EMap Try.prog 47 (.int .i64 0) keyQ (fun p => p.1 < n ∧ p.2 < n) m (fun p => .int .i64 (s.way p)) es c
theorem wayφ_way {n m : Nat} {s s' : QS} {es : Array MapEntry} {c : Nat} (h : wayφ n m s es c) (e : s'.way = s.way) : wayφ n m s' es c := by
  unfold wayφ at h ⊢
  rw [e]
  exact h
abbrev hdQ (g go gb n cap bm : Nat) (s : QS) : LRow := blk g 45 5 (ofL [.int .i64 n, .int .u32 (s.works : Nat), .slice (some ⟨go, 0, none⟩) n n, .slice (some ⟨gb, 0, none⟩) n cap, .map (some bm)])
abbrev owR (go n : Nat) (s : QS) : LRow := ⟨some ⟨go, 0, none⟩, 3, 1, n, n, fun i => .int .i64 (s.owed i)⟩
abbrev boR (gb n cap : Nat) (s : QS) : LRow := ⟨some ⟨gb, 0, none⟩, 3, 1, n, cap, fun i => .int .i64 (s.bound i : Nat)⟩
abbrev rowsQ (g go gb n cap bm : Nat) (s : QS) (R : List LRow) : List LRow := hdQ g go gb n cap bm s :: owR go n s :: boR gb n cap s :: R
abbrev mapQ (n m bm : Nat) (s : QS) : List MRow := [⟨bm, wayφ n m s⟩]
section
variable {g go gb n cap bm m : Nat} {s : QS} {R : List LRow} {Q : List MRow} {w0 w : World}
theorem qu_heads (h : LayM w0 w (rowsQ g go gb n cap bm s R) Q) : w.cell? ⟨g, 0, none⟩ = some (.int .i64 n) ∧ w.cell? ⟨g, 1, none⟩ = some (.int .u32 (s.works : Nat)) ∧ w.cell? ⟨g, 2, none⟩ = some (.slice (some ⟨go, 0, none⟩) n n) ∧ w.cell? ⟨g, 3, none⟩ = some (.slice (some ⟨gb, 0, none⟩) n cap) ∧ w.cell? ⟨g, 4, none⟩ = some (.map (some bm)) :=
  ⟨h.lay.cellB 0 rfl 0 (by omega), h.lay.cellB 0 rfl 1 (by omega), h.lay.cellB 0 rfl 2 (by omega), h.lay.cellB 0 rfl 3 (by omega), h.lay.cellB 0 rfl 4 (by omega)⟩
theorem qu_owed {i : Nat} (h : LayM w0 w (rowsQ g go gb n cap bm s R) Q) (hi : i < n) : w.cell? ⟨go, i, none⟩ = some (.int .i64 (s.owed i)) := h.lay.cell1 1 rfl hi
theorem qu_bound {i : Nat} (h : LayM w0 w (rowsQ g go gb n cap bm s R) Q) (hi : i < n) : w.cell? ⟨gb, i, none⟩ = some (.int .i64 (s.bound i : Nat)) := h.lay.cell1 2 rfl hi
theorem qu_setO {i : Nat} (x : Int) (h : LayM w0 w (rowsQ g go gb n cap bm s R) Q) (hi : i < n) : LayM w0 (w.setCell ⟨go, i, none⟩ (.int .i64 x)) (rowsQ g go gb n cap bm { s with owed := upd s.owed i x } R) Q :=
  h.upd 1 (mk := Value.int .i64) x rfl hi
theorem qu_setB {i : Nat} (x : Nat) (h : LayM w0 w (rowsQ g go gb n cap bm s R) Q) (hi : i < n) : LayM w0 (w.setCell ⟨gb, i, none⟩ (.int .i64 (x : Nat))) (rowsQ g go gb n cap bm { s with bound := upd s.bound i x } R) Q :=
  h.upd 2 (mk := fun x : Nat => Value.int .i64 (x : Nat)) x rfl hi
theorem qu_setW (x : Nat) (h : LayM w0 w (rowsQ g go gb n cap bm s R) Q) : LayM w0 (w.setCell ⟨g, 1, none⟩ (.int .u32 (x : Nat))) (rowsQ g go gb n cap bm { s with works := x } R) Q :=
  h.fld 0 1 _ rfl (by omega) (by simp)
end
/-- Behind so many rounds. -/
def LooseI (n f : Nat) (s0 : QS) (k i : Nat) (s : QS) : Prop := i < n ∧ QJ n (some i) s ∧ (∀ j, j < n → s.owed j ≤ 100) ∧ looseS k i s = looseS n f s0 ∧ farN s.bound n ≤ k ∧ s.way = s0.way
theorem LooseI.step {n f k i : Nat} {s0 s : QS} (h : LooseI n f s0 k i s) (hr : ready i s) : ∃ k', k = k' + 1 ∧ LooseI n f s0 k' (s.bound i) (letGo i s) := by
  obtain ⟨hi, hq, ho, he, hf, hw⟩ := h
  have hu := farN_upd hr.2.2.2 n
  rw [if_pos hi] at hu
  obtain ⟨k', rfl⟩ : ∃ k', k = k' + 1 := ⟨k - 1, by omega⟩
  refine ⟨k', rfl, hq.bound i hi, hq.letGo_ hi hr, fun j hj => ?_, ?_, ?_, hw⟩
  · show upd s.owed (s.bound i) _ j ≤ 100
    rw [upd_apply]; split
    · have := ho _ (hq.bound i hi); omega
    · exact ho j hj
  · rw [looseS, if_pos hr] at he; exact he
  · show farN (upd s.bound i i) n ≤ k'
    omega
theorem LooseI.done {n f k i : Nat} {s0 s : QS} (h : LooseI n f s0 k i s) (hr : ¬ ready i s) : looseS n f s0 = s := by
  rw [← h.2.2.2.1]
  cases k with
  | zero => rfl
  | succ k => rw [looseS, if_neg hr]

section
variable (g go gb n cap bm : Nat) (R : List LRow) (Q : List MRow) (w0 : World)
set_option maxRecDepth 100000 in
set_option maxHeartbeats 1000000 in
theorem loose_any (f : Nat) (s0 : QS) (w : World) (hn : n ≤ 6) (hf : f < n) (hq : QJ n (some f) s0) (ho : ∀ j, j < n → s0.owed j ≤ 100) (h : LayM w0 w (rowsQ g go gb n cap bm s0 R) Q) :
    Calls Try.prog 17 #[.pointer (some ⟨g, 0, none⟩), .int .i64 f] w fun e w' => e = .returned (.tuple #[]) ∧ LayM w0 w' (rowsQ g go gb n cap bm (looseS n f s0) R) Q := by
  have H := Lib.hid h
  have HI : Hid (LooseI n f s0 n f s0) := Lib.hid ⟨hf, hq, ho, rfl, farN_le _ _, rfl⟩
  clear h hq ho
  go_enter Try.func17, Try.ntmps17
  go_wp2
  go_loopg [1] n (fun k v wr => ∃ (i : Nat) (s : QS), v = .int .i64 (i : Nat) ∧ Hid (LooseI n f s0 k i s) ∧ Hid (LayM w0 wr (rowsQ g go gb n cap bm s R) Q))
  case atStart => exact ⟨f, s0, rfl, HI, H⟩
  case round =>
    clear H HI
    obtain ⟨i, s, rfl, HI, H⟩ := hrel
    have hi := HI.out.1
    have hbi := HI.out.2.1.bound i hi
    have hb6 : s.works < 2 ^ n := HI.out.2.1.works
    have hw32 : s.works < 4294967296 := Nat.lt_of_lt_of_le hb6 (Nat.le_trans (Nat.pow_le_pow_right (by omega) (show n ≤ 32 by omega)) (by decide))
    have hb := bit_num (i := i) hw32
    have hob := HI.out.2.2.1 (s.bound i) hbi
    have hop := HI.out.2.1.owed_pos hbi
    have H' := H
    obtain ⟨c0, c1, c2, c3, c4⟩ := qu_heads H.out
    have n01 := H.out.lay.ne_ 0 1 rfl rfl (by omega)
    have n02 := H.out.lay.ne_ 0 2 rfl rfl (by omega)
    have n12 := H.out.lay.ne_ 1 2 rfl rfl (by omega)
    have r2 := qu_owed H.out hi
    have r3 := qu_bound H.out hi
    clear hb6 hw32
    by_cases hr : ready i s
    · obtain ⟨k', hk, HN⟩ := HI.out.step hr
      have HN := Lib.hid HN
      obtain ⟨h0, h1, h2, h3⟩ := hr
      rw [h1] at hb
      simp only [Bool.false_eq_true, if_false] at hb
      rw [h2] at r2
      have r4 := qu_owed H.out hbi
      have e3 : ((s.bound i : Int) != (i : Int)) = true := by rw [bne_iff_ne]; omega
      have e0 : ((i : Int) != 0) = true := by simpa using h0
      have f3 := H.out.lay.frz 2 rfl (by omega) i
      have f2 := H.out.lay.frz 1 rfl (by omega) (s.bound i)
      have HS := Lib.hid (qu_setO (s.owed (s.bound i) - 1) (qu_setB i H.out hi) hbi)
      clear h0 h1 h2 h3
      go_wp2
      go_roundg k'
      case measure => omega
      case rel => exact ⟨s.bound i, letGo i s, rfl, HN, HS⟩
    · have HD := Lib.hid (HI.out.done hr)
      have HR := Lib.hid hr
      clear HI hr
      by_cases h0 : i = 0
      · subst h0
        go_wp2
        go_end0
        exact ⟨rfl, by rw [HD.out]; exact H.out⟩
      have e0 : ((i : Int) != 0) = true := by rw [bne_iff_ne]; omega
      by_cases h1 : s.works.testBit i = true
      · rw [h1] at hb
        simp only [if_true] at hb
        clear h1 h0
        go_wp2
        go_end0
        exact ⟨rfl, by rw [HD.out]; exact H.out⟩
      have h1 : s.works.testBit i = false := by simpa using h1
      rw [h1] at hb
      simp only [Bool.false_eq_true, if_false] at hb
      by_cases h2 : s.owed i = 0
      · rw [h2] at r2
        have h3 : s.bound i = i := Decidable.byContradiction fun h3 => HR.out ⟨h0, h1, h2, h3⟩
        rw [h3] at r3
        clear h1 h0 h2 h3
        go_wp2
        go_end0
        exact ⟨rfl, by rw [HD.out]; exact H.out⟩
      · have e2 : (s.owed i == 0) = false := by rw [beq_eq_false_iff_ne]; exact h2
        clear h1 h0 h2
        go_wp2
        go_end0
        exact ⟨rfl, by rw [HD.out]; exact H.out⟩
end
end Go.Proofs.Ytfcgjmekeonemaa
