/- The walk of wait.Probe. -/
import Derived.Test.YtgjmnnbcclgahaaProbeMath
import Derived.Test.YtgjmnnbcclgahaaQue
import Derived.Test.YtgjmnnbcclgahaaOnes
import Derived.Test.YtgjmnnbcclgahaaShr
import Derived.Test.YtgjmnnbcclgahaaKept
set_option linter.unusedVariables false
set_option linter.unusedSimpArgs false
namespace Go.Proofs.Ytgjmnnbcclgahaa
open Go.RowKit Relation

theorem infoInt : (Try.prog.info? 3).map (fun i => (i.zero, i.size, i.bytes)) = some (some (.int .i64 0), 1, 8) := by kernel_rfl
def vI (x : Nat) : Value := .int .i64 (x : Nat)
def slLen : Value → Nat
  | .slice _ n _ => n
  | _ => 0
theorem andNot_bit {a b j : Nat} (ha : a < 4294967296) (hb : b < 4294967296) : (bits .and .u32 (bits .andNot .u32 (a : Int) (b : Int) / 2 ^ j) 1 == 1) = (a.testBit j && !b.testBit j) := by
  rw [u32_andNot_nat a b ha hb, bit_at (Nat.lt_of_le_of_lt Nat.and_le_left ha), Nat.testBit_and]
  have e : 4294967295 - b = 2 ^ 32 - (b + 1) := by omega
  rw [e, Nat.testBit_two_pow_sub_succ (by omega)]
  by_cases hj : j < 32
  · simp [hj]
  · rw [testBit_big ha (by omega)]; rfl
set_option maxHeartbeats 400000 in
theorem probe_bad (A : Option Addr) (n cap B : Nat) (f : Nat → Nat) (i : Int) (w : World) (hm : n ≤ maxLen) (hr : Rd w B A n (fun j => .int .u32 (f j : Nat))) (hbad : waitCode f n ≠ 0) :
    Calls Try.prog 15 #[.slice A n cap, .int .i64 i] w fun e w' => e = .returned (.tuple #[.bool false, .int .i64 0, .int .i64 (waitCode f n)]) ∧ w = w' := by
  have HR := Lib.hid hr; clear hr
  have HM := Lib.hid hm; clear hm
  have hb' : (waitCode f n == 0) = false := beq_eq_false_iff_ne.2 hbad
  have hb2 : (waitCode f n != 0) = true := by simpa using hbad
  clear hbad
  go_enter Try.func15, Try.ntmps15
  go_wp2_with (go_at_call 28; refine (waitWrong_any A n cap B f _ HM.out HR.out).mono ?_; rintro e w' ⟨rfl, rfl⟩)
  go_ret3
  exact ⟨rfl, rfl⟩
set_option maxHeartbeats 400000 in
theorem probe_out (A : Option Addr) (n cap B : Nat) (f : Nat → Nat) (i : Int) (w : World) (hm : n ≤ maxLen) (hr : Rd w B A n (fun j => .int .u32 (f j : Nat))) (hgood : waitCode f n = 0) (hi : ¬ (0 ≤ i ∧ i < n)) :
    Calls Try.prog 15 #[.slice A n cap, .int .i64 i] w fun e w' => e = .returned (.tuple #[.bool false, .int .i64 0, .int .i64 2]) ∧ w = w' := by
  have HR := Lib.hid hr; clear hr
  have HM := Lib.hid hm; clear hm
  have HG := Lib.hid hgood
  by_cases h0 : i < 0
  · go_enter Try.func15, Try.ntmps15
    go_wp2_with (go_at_call 28; refine (int_is (waitWrong_any A n cap B f _ HM.out HR.out) HG.out).mono ?_; rintro e w' ⟨rfl, rfl⟩)
    go_ret3
    exact ⟨rfl, rfl⟩
  · have h1 : (n : Int) ≤ i := by omega
    go_enter Try.func15, Try.ntmps15
    go_wp2_with (go_at_call 28; refine (int_is (waitWrong_any A n cap B f _ HM.out HR.out) HG.out).mono ?_; rintro e w' ⟨rfl, rfl⟩)
    go_ret3
    exact ⟨rfl, rfl⟩

set_option maxHeartbeats 2000000 in
theorem probe_good (A : Option Addr) (n cap B : Nat) (f : Nat → Nat) (i : Nat) (w : World) (hm : n ≤ maxLen) (hr : Rd w B A n (fun j => .int .u32 (f j : Nat))) (hB : B ≤ w.heap.size) (hgood : waitCode f n = 0) (hi : i < n) :
    Calls Try.prog 15 #[.slice A n cap, .int .i64 (i : Nat)] w (Gives fun v w' => ∃ (back : Bool) (many : Nat), v = .tuple #[.bool back, .int .i64 (many : Nat), .int .i64 0] ∧ ((back = true ↔ TransGen (Edge f) i i) ∧ pop (f i) ≤ many ∧ many ≤ n * n) ∧ Below w.heap.size w w') := by
  have HR := Lib.hid (hr.more hB); clear hr
  have HM := Lib.hid hm; clear hm
  have HG := Lib.hid hgood
  obtain ⟨h1, h6⟩ := waitCode_ok hgood
  have HF := Lib.hid (waitCode_lt hgood)
  obtain ⟨i0, hi0, hz0, hz1, hz2⟩ := info_parts infoInt
  have HPI := Lib.hid (pow_mod (show i < 32 by omega))
  clear hgood
  have hdn : decide (n ≤ i) = false := by simp; omega
  go_enter Try.func15, Try.ntmps15
  go_wp2_with (go_at_call 28; refine (int_is (waitWrong_any A n cap _ f _ HM.out HR.out) HG.out).mono ?_; rintro e w' ⟨rfl, rfl⟩)
  go_loopw [8, 9, 10, 11] (fun m b s q wr => ∃ (many : Nat) (S : Nat) (A' : Option Addr) (cap' : Nat) (d ql : List Nat), m = .int .i64 (many : Nat) ∧ s = .int .u32 (S : Nat) ∧ q = .slice A' ql.length cap' ∧
      Hid (QSl wr w.heap.size 3 (.slice A' ql.length cap') (ql.map vI)) ∧ Hid (Below w.heap.size w wr) ∧ Hid (SeenI f n i d ql S) ∧ Hid (∃ back, b = .bool back ∧ TotI f n i d S back many))
    (fun m b s q wr => (n - popTo (intOf s).toNat n) + slLen q)
  case atStart =>
    refine ⟨0, 2 ^ i, some ⟨w.heap.size, 0, none⟩, 1, [], [i], rfl, by rw [← HPI.out], rfl, Lib.hid (.inr ⟨w.heap.size, 0, 1, #[vI i], rfl, Nat.le_refl _, heap_alloc_new _ _, Nat.le_refl _, by unfold maxLen; omega, Nat.le_refl _, rfl⟩), Lib.hid ((Below.refl _ _).alloc (Nat.le_refl _) _), Lib.hid (seen_start hi (by omega)), Lib.hid ⟨_, rfl, tot_start (by omega)⟩⟩
  case round =>
    obtain ⟨many, S, A', cap', d, ql, rfl, rfl, rfl, HQ, HB, HS, HTT⟩ := hrel
    obtain ⟨back, rfl, hT⟩ := HTT.out
    have HT := Lib.hid hT
    clear hT HTT
    have hz := HB.out.size
    cases ql with
    | nil =>
      have hend := probe_end HS.out HT.out
      have HE := Lib.hid hend
      clear hend HQ HS HT
      go_wp2
      go_ret3
      exact ⟨_, rfl, back, many, rfl, HE.out, HB.out⟩
    | cons y t =>
      obtain ⟨g, off, rfl, hg, hy⟩ := HQ.out.cell (j := 0) (x := vI y) rfl
      have hyn := HS.out.lt y (.inr (by simp))
      obtain ⟨ad, rfl, _, hc⟩ := (HR.out.below HB.out) (by omega)
      have hfy := hc y hyn
      have hlen : (y :: t).length = t.length + 1 := rfl
      have HFY := Lib.hid (HF.out y hyn)
      have HFS := Lib.hid (small_of h6 (HF.out y hyn))
      have hy' : wr.cell? ⟨g, off, none⟩ = some (.int .i64 (y : Nat)) := hy
      clear hy hc
      have HP6 := Lib.hid (pop_le HFY.out (by omega : n ≤ 32))
      have hmany : many ≤ 100 := by
        have h3 := HS.out.cn
        have h4 := popTo_le S n
        have h5 := HT.out.hi
        have h7 : d.length * n ≤ 6 * 6 := Nat.mul_le_mul (by omega) h6
        omega
      obtain ⟨pp, hpp⟩ : ∃ pp, pop (f y) = pp := ⟨_, rfl⟩
      have HM0 := Lib.hid HS.out.cn
      have hpp6 : pp ≤ 6 := by have := HP6.out; omega
      have HON := Lib.hid (fun (W : World) => ones_any (f y) W (by have := HFY.out; have := pow_small h6; omega))
      rw [hpp] at HON
      obtain ⟨tb, htb⟩ : ∃ tb, (f y).testBit i = tb := ⟨_, rfl⟩
      have hsh := (bit_at (i := i) HFS.out).trans htb
      have HTB := Lib.hid htb
      have HPP := Lib.hid hpp
      clear htb hpp HP6
      rw [hlen]
      cases back <;> cases tb
      all_goals
        go_wp2_with (go_at_call 29; refine (HON.out _).mono ?_; rintro e w' ⟨rfl, rfl⟩)
        clear hsh hfy hy' hlen hmany
        go_loopw [10, 11, 56] (fun s q j w2 => ∃ (S' : Nat) (A2 : Option Addr) (cap2 : Nat) (t2 : List Nat) (x : Nat), s = .int .u32 (S' : Nat) ∧ q = .slice A2 (t2.length + 1) cap2 ∧ j = .int .i64 (x : Nat) ∧ x ≤ n ∧
          Hid (QSl w2 w.heap.size 3 (.slice A2 (t2.length + 1) cap2) ((y :: t2).map vI)) ∧ Hid (Below w.heap.size w w2) ∧ Hid (SeenI f n i d (y :: t2) S') ∧ Hid (TotI f n i d S' _ many) ∧ Hid (∀ z, z < x → (f y).testBit z = true → S'.testBit z = true))
          (fun _ _ j _ => n - (intOf j).toNat)
        case atStart => exact ⟨S, _, cap', t, 0, rfl, rfl, rfl, by omega, Lib.hid HQ.out, Lib.hid (below_sim HB.out ⟨rfl, rfl, rfl, rfl⟩), HS, HT, Lib.hid (fun z hz => absurd hz (by omega))⟩
        case round =>
          clear HQ HB HS HT hz
          obtain ⟨S', A2, cap2, t2, x, rfl, rfl, rfl, hx, HQ, HB, HS, HT, HC⟩ := hrel
          have hz := HB.out.size
          have hln : t2.length + 1 ≤ 6 := by
            have h3 := HS.out.cn
            have h4 := popTo_le S' n
            have h5 : (y :: t2).length = t2.length + 1 := rfl
            omega
          have HSZ := Lib.hid (small_of h6 HS.out.sz)
          by_cases hxn : x < n
          · have hbit := andNot_bit (j := x) HFS.out HSZ.out
            cases hb : ((f y).testBit x && !S'.testBit x)
            · rw [hb] at hbit
              go_wp2
              go_roundw
              case rel =>
                refine ⟨S', A2, cap2, t2, x + 1, rfl, rfl, by go_num, by omega, HQ, HB, HS, HT, Lib.hid fun z hz hf => ?_⟩
                rcases Nat.lt_succ_iff_lt_or_eq.1 hz with h | rfl
                · exact HC.out z h hf
                · rw [hf] at hb; simpa using hb
              case measure => simp [intOf]; omega
            · rw [hb] at hbit
              obtain ⟨hf1, hf2⟩ : (f y).testBit x = true ∧ S'.testBit x = false := by simpa using hb
              have HOR := Lib.hid (or_pow (m := x) HSZ.out (by omega))
              go_wp2_with (at_builtin; refine wpList_apQ rfl (.tmp 70) (.tmp 72) _ rfl 3 i0 _ 8 Try.underlying43 hi0 hz0 hz1 hz2 rfl w.heap.size rfl (HQ.out.alloc _) rfl (cell_one _ _ _) rfl (t2.length + 1 + 1) (by simp) (by simp [maxLen]; omega) (by simp; omega) (by simp; omega) ?_; intro A3 c3 w3 hq3 hg3 ha3; have HB3 := Lib.hid ((HB.out.alloc hz _).grown hg3 (by simp; omega) HQ.out.blk); have HQ3 := Lib.hid hq3; clear hq3 hg3 ha3)
              go_roundw
              case rel =>
                refine ⟨S' ||| 2 ^ x, A3, c3, t2 ++ [x], x + 1, by rw [HOR.out], by rw [List.length_append]; rfl, by go_num, by omega, Lib.hid ?_, HB3, Lib.hid ?_, Lib.hid ?_, Lib.hid fun z hz hf => ?_⟩
                · rw [List.length_append, ← List.cons_append, List.map_append]; exact HQ3.out
                · rw [← List.cons_append]; exact seen_push HS.out hxn hf2 (.inr (by simp)) hf1
                · exact tot_more HT.out fun z hz => by rw [testBit_or_pow, hz]; rfl
                · rw [testBit_or_pow]
                  rcases Nat.lt_succ_iff_lt_or_eq.1 hz with h | rfl
                  · rw [HC.out z h hf]; rfl
                  · simp
              case measure => simp [intOf]; omega
          · obtain rfl : x = n := by omega
            have hT' := tot_pop HT.out (by omega) HFY.out fun z hz hf => HC.out z hz hf
            rw [HTB.out, HPP.out] at hT'
            have HTN := Lib.hid hT'
            have HSN := Lib.hid (seen_pop HS.out)
            have HM1 := Lib.hid HS.out.cn
            clear hT'
            by_cases hc1 : cap2 = 1
            · have HQN := Lib.hid (HQ.out.pop0 hc1 rfl)
              clear HQ HT HS HC
              go_wp2
              go_roundw
              case rel =>
                exact ⟨many + pp, S', _, _, d ++ [y], t2, by go_num, rfl, rfl, HQN, HB, HSN, Lib.hid ⟨_, rfl, HTN.out⟩⟩
              case measure =>
                have h1 := HM0.out
                have h2 := HM1.out
                have h3 := popTo_le S' x
                have h4 := popTo_le S x
                simp only [List.length_cons] at h1 h2
                simp only [intOf, slLen, Int.toNat_natCast]
                omega
            · have HQN := Lib.hid (HQ.out.popS hc1 rfl)
              clear HQ HT HS HC
              go_wp2
              go_roundw
              case rel =>
                exact ⟨many + pp, S', _, _, d ++ [y], t2, by go_num, rfl, rfl, HQN, HB, HSN, Lib.hid ⟨_, rfl, HTN.out⟩⟩
              case measure =>
                have h1 := HM0.out
                have h2 := HM1.out
                have h3 := popTo_le S' x
                have h4 := popTo_le S x
                simp only [List.length_cons] at h1 h2
                simp only [intOf, slLen, Int.toNat_natCast]
                omega
end Go.Proofs.Ytgjmnnbcclgahaa
