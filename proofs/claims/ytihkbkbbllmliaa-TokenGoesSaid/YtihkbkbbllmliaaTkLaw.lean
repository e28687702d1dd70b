/- token.Play, for the laws. -/
import Derived.Test.YtihkbkbbllmliaaTk7
import Derived.Test.YtihkbkbbllmliaaTkTree
import Derived.Test.YtihkbkbbllmliaaPlayed
set_option linter.unusedVariables false
set_option linter.unusedSimpArgs false
namespace Go.Proofs.Ytihkbkbbllmliaa
open Go.RowKit Go.Maps Go.MapKept

set_option maxRecDepth 100000 in
set_option maxHeartbeats 1600000 in
theorem tk_bad (n m cap cap1 : Nat) (A A1 : Option Addr) (u : Nat → Int) (w : World) (hn : n ≤ maxLen) (hm : m ≤ maxLen) (hr : Rd w w.heap.size A1 n (fun j => .int .i64 (u j))) (hb : ¬ (playedB n m = true ∧ TreeOk n u)) :
    Calls Try.prog 13 #[.slice A1 n cap1, .slice A m cap] w fun e w' => ∃ c : Int, c ≠ 0 ∧ e = .returned (.tuple #[.agg #[.slice none 0 0, .int .u32 0, .int .u32 0, .int .i64 0], .int .i64 c]) ∧ Below w.heap.size w w' := by
  unfold maxLen at hm hn
  by_cases hp : playedB n m = true
  · have ht : ¬ TreeOk n u := fun h => hb ⟨hp, h⟩
    have HT := Lib.hid ht
    have HR := Lib.hid hr
    obtain ⟨h1, h2, h3⟩ := playedB_iff.1 hp
    clear hb hp ht hr
    go_enter Try.func13, Try.ntmps13
    go_wp2_with fail
    have HL0 := Lib.hid ((Lay.nil w).newB zeroKL 26 4 rfl _ rfl)
    refine at_lay (F := fun W' => Calls _ _ _ W' _) HL0.out ?_
    intro W hW
    have HW := Lib.hid hW
    clear hW HL0
    have hbr : w.heap.size < w.heap.size + 1 := by omega
    obtain ⟨br, hbr⟩ : ∃ br, br = w.heap.size := ⟨_, rfl⟩
    rw [← hbr] at HW ⊢
    have HBR := Lib.hid hbr
    clear hbr
    refine (root_any A1 n cap1 w.heap.size u W (by omega) HW.out.size (HR.out.below HW.out.bel)).mono ?_
    rintro e w1 ⟨v, rfl, hp, hb⟩
    obtain ⟨c, hc, rfl⟩ : ∃ c : Int, c ≠ 0 ∧ v = .tuple #[.int .i64 0, .int .i64 c] := by
      rcases hp with ⟨h1, _⟩ | ⟨_, c, h2, h3⟩
      · exact absurd h1 HT.out
      · exact ⟨c, h2, h3⟩
    have H1 := Lib.hid (HW.out.keep hb)
    clear hb hp HW
    have hc2 : (c != 0) = true := by rw [bne_iff_ne]; exact hc
    have r0 := H1.out.cellB 0 rfl 0 (by omega)
    have r1 := H1.out.cellB 0 rfl 1 (by omega)
    have r2 := H1.out.cellB 0 rfl 2 (by omega)
    have r3 := H1.out.cellB 0 rfl 3 (by omega)
    simp only [ofL_0, ofL_1, ofL_2, ofL_3] at r0 r1 r2 r3
    have f0 := H1.out.frz 0 rfl (by omega) 0
    have f1 := H1.out.frz 0 rfl (by omega) 1
    have f2 := H1.out.frz 0 rfl (by omega) 2
    have f3 := H1.out.frz 0 rfl (by omega) 3
    have HF := Lib.hid ((((H1.out.fld 0 0 (.slice none 0 0) rfl (by omega) (by simp)).fld 0 1 (.int .u32 0) rfl (by omega) (by simp)).fld 0 2 (.int .u32 0) rfl (by omega) (by simp)).fld 0 3 (.int .i64 0) rfl (by omega) (by simp))
    go_wp2
    have HF2 := HF.out
    clear r0 r1 r2 r3 f0 f1 f2 f3 HF H1
    generalize (((w1.setCell ⟨br, 0, none⟩ (.slice none 0 0)).setCell ⟨br, 1, none⟩ (.int .u32 0)).setCell ⟨br, 2, none⟩ (.int .u32 0)).setCell ⟨br, 3, none⟩ (.int .i64 0) = W8 at HF2 ⊢
    have r0 : W8.cell? ⟨br, 0, none⟩ = some (.slice none 0 0) := HF2.cellB 0 rfl 0 (by omega)
    have r1 : W8.cell? ⟨br, 1, none⟩ = some (.int .u32 0) := HF2.cellB 0 rfl 1 (by omega)
    have r2 : W8.cell? ⟨br, 2, none⟩ = some (.int .u32 0) := HF2.cellB 0 rfl 2 (by omega)
    have r3 : W8.cell? ⟨br, 3, none⟩ = some (.int .i64 0) := HF2.cellB 0 rfl 3 (by omega)
    exact bodyPost_ret (v := .tuple #[.agg #[.slice none 0 0, .int .u32 0, .int .u32 0, .int .i64 0], .int .i64 c]) (by simp [results, Try.results13, go_sem, r0, r1, r2, r3]) rfl ⟨c, hc, rfl, HF2.bel⟩
  · have h' : n < 1 ∨ 6 < n ∨ 60 < m := by
      have : ¬ (1 ≤ (n : Int) ∧ (n : Int) ≤ 6 ∧ (m : Int) ≤ 60) := fun h => hp (playedB_iff.2 h)
      omega
    clear hb hp hr
    go_enter Try.func13, Try.ntmps13
    go_wp2_with fail
    all_goals first
      | (exfalso; omega)
      | ((try simp only [Exit.inBlock, Exit.then]); refine bodyPost_ret (v := .tuple #[.agg #[.slice none 0 0, .int .u32 0, .int .u32 0, .int .i64 0], .int .i64 1]) (by simp [results, Try.results13, go_sem]) rfl ?_; exact ⟨1, by decide, rfl, (Below.refl _ _).alloc (Nat.le_refl _) _⟩)
theorem inK_bit {n : Nat} {s : KS} {j : Nat} : (inK s n).testBit j = (decide (j < n) && decide (s.inn = (j : Int))) := wordP_bit _ n j
theorem wantK_bit {n : Nat} {s : KS} {j : Nat} : (wantK s n).testBit j = (decide (j < n) && decide (j ∈ s.row j)) := wordP_bit _ n j
theorem pow64K {n : Nat} (hn : n ≤ 6) : 2 ^ n ≤ 64 := by
  have := Nat.pow_le_pow_right (n := 2) (by omega) hn
  simpa using this
theorem inK_32 {n : Nat} (s : KS) (hn : n ≤ 6) : inK s n < 4294967296 ∧ wantK s n < 4294967296 := by
  have h1 : inK s n < 2 ^ n := wordP_lt _ _
  have h2 : wantK s n < 2 ^ n := wordP_lt _ _
  have := pow64K hn
  exact ⟨by omega, by omega⟩
theorem popToK_none {a : Nat} : ∀ {m : Nat}, (∀ i, i < m → a.testBit i = false) → popTo a m = 0
  | 0, _ => rfl
  | m + 1, h => by rw [popTo, popToK_none fun i hi => h i (by omega), h m (by omega)]; rfl
theorem popToK_one {a : Nat} (h : ∀ i j, a.testBit i = true → a.testBit j = true → i = j) : ∀ m, popTo a m ≤ 1
  | 0 => Nat.zero_le _
  | m + 1 => by
    rw [popTo]
    cases hb : a.testBit m
    · have := popToK_one h m
      simpa using this
    · rw [popToK_none fun i hi => by
        cases hi2 : a.testBit i
        · rfl
        · have := h i m hi2 hb; omega]
      simp
theorem inK_one {n : Nat} (s : KS) : pop (inK s n) ≤ 1 := popToK_one (fun i j hi hj => by
  rw [inK_bit] at hi hj
  simp at hi hj
  omega) 32
theorem inK_apart {n k l : Nat} {s : KS} (h : KJ n k l s) (hn : n ≤ 6) : (bits .and .u32 (inK s n : Int) (wantK s n : Int) == 0) = true :=
  (and_zero (inK_32 s hn).1 (inK_32 s hn).2).2 fun i hi => by
    rw [inK_bit] at hi
    simp at hi
    rw [wantK_bit]
    simp [h.out i hi.2]
end Go.Proofs.Ytihkbkbbllmliaa
