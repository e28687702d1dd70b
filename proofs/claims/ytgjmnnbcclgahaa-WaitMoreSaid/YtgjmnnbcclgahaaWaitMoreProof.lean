/-
  WaitMore: for every list of waits and every two numbers the law returns true, and its arguments read as before. No condition.
-/
import Derived.Test.YtgjmnnbcclgahaaWaitMore
import Derived.Test.YtgjmnnbcclgahaaRow
namespace Go.Proofs.Ytgjmnnbcclgahaa
open Go.ChangeShapes Go.WideShapes Go.ChangeAt Go.RowKit

theorem waitMore_all (A : Option Addr) (n cap : Nat) (f : Nat → Nat) (i j : Int) (w : World) (hm : n ≤ maxLen) (hr : Rd w w.heap.size A n (fun j => .int .u32 (f j : Nat))) :
    Calls Try.prog 3 #[.slice A n cap, .int .i64 i, .int .i64 j] w fun e w' => e = .returned (.bool true) ∧ Below w.heap.size w w' := by
  by_cases hc : waitCode f n = 0
  · by_cases hin : (0 ≤ i ∧ i < n) ∧ (0 ≤ j ∧ j < n)
    · obtain ⟨i', rfl⟩ := Int.eq_ofNat_of_zero_le hin.1.1
      obtain ⟨j', rfl⟩ := Int.eq_ofNat_of_zero_le hin.2.1
      exact waitMore_good A n cap _ f i' j' w hm hr hc (by omega) (by omega) (Nat.le_refl _)
    · refine waitMore_out A n cap _ f i j w hm hr hc ?_
      by_cases hi : 0 ≤ i ∧ i < n
      · exact insideB_no (k := 1) (by omega) (by simp [two]; omega)
      · exact insideB_no (k := 0) (by omega) (by simp [two]; omega)
  · exact waitMore_bad A n cap _ f i j w hm hr hc

set_option maxRecDepth 100000 in
theorem waitMore_lifted (os : Os) (started : os.Started) (H : Type) (enc : TypeId × Value → H) :
    ReturnsInHanded {} Try.checked os 3 .any (Rows.waitMoreSpec.pre6 enc Try.prog Try.f3 Rows.waitMoreRow.domain false) (Rows.waitMoreSpec.post enc Try.prog Try.f3 false true false false) := by
  refine returnsInHanded_of_change (C := Try.checked) Try.own started (by kernel_rfl) Try.func3
    (ChangeSpec.witness6 (enc := enc) (C := Try.checked) false ⟨#[], #[.slice none 0 0, .int .i64 0, .int .i64 0], []⟩ 8 (by kernel_rfl) (by kernel_rfl) (by kernel_rfl) (by kernel_rfl)) ?_
  intro W base args ds gs before hval0 hW _ _
  have hval : ∀ (j : Nat) t v, Try.f3.params[j]? = some t → args[j]? = some v → Value.okWide Try.prog W .any base t v := hval0
  have hW' := hW
  obtain ⟨p, q, hA0, hV, _, _, _⟩ := hW
  have hA : DataW.TrodAll enc Try.prog W 0 (fun _ => true) true Try.f3.params.toList args.toList ds p := hA0
  rw [Try.params3] at hA hval
  obtain ⟨v0, vs0, d0, ds0, p0, q0, hargs, rfl, rfl, h0, r0⟩ := trodAll_cons hA
  obtain ⟨v1, vs1, d1, ds1, p1, q1, rfl, rfl, rfl, h1, r1⟩ := trodAll_cons r0
  obtain ⟨v2, vs2, d2, ds2, p2, q2, rfl, rfl, rfl, h2, r2⟩ := trodAll_cons r1
  obtain ⟨rfl, rfl, rfl⟩ := trodAll_nil r2
  obtain rfl : args = #[v0, v1, v2] := by cases args; simp_all
  obtain ⟨rfl, rfl⟩ := trodVars_none hV
  obtain ⟨A, n, cap, f, rfl, hm, _, hr⟩ := open_words Try.underlying22 Try.underlying23 (by kernel_rfl) (hval 0 _ v0 rfl rfl) h0
  obtain ⟨i, rfl, _, _, _⟩ := open_int Try.underlying3 (hval 1 _ v1 rfl rfl) h1
  obtain ⟨j, rfl, _, _, _⟩ := open_int Try.underlying3 (hval 2 _ v2 rfl rfl) h2
  refine (waitMore_all A n cap f i j W hm hr).mono fun e W' ⟨he, hb⟩ => ⟨_, he, ?_⟩
  exact law_post Try.laidOut (by kernel_rfl) (tb := 4) rfl Try.underlying4 rfl hW' rfl rfl rfl hb

theorem waitMore_holds : Rows.WaitMoreSaid :=
  OpenClaim.holds_of_wide 3 Try.f3 rfl rfl rfl rfl rfl rfl rfl ⟨rfl, rfl, rfl, rfl, rfl⟩ rfl rfl rfl rfl rfl (by kernel_rfl) Try.func3 (by kernel_rfl)
    (of_decide_eq_true (by kernel_rfl)) (by unfold Func.isWrapper; first | (rw [if_pos (by decide +kernel)]; kernel_rfl) | (rw [if_neg (by decide +kernel)]; exact ⟨rfl, rfl⟩))
    (fun os started H enc _ => waitMore_lifted os started H enc)
end Go.Proofs.Ytgjmnnbcclgahaa
