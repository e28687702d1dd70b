/-
  LogsGoes: for every input the law returns true, and its arguments read as before. No condition. 
-/
import Derived.Test.YtfhmabpalimcnaaLogsGoes
import Derived.Test.YtfhmabpalimcnaaRow
set_option linter.unusedVariables false
set_option linter.unusedSimpArgs false
namespace Go.Proofs.Ytfhmabpalimcnaa
open Go.ChangeShapes Go.WideShapes Go.ChangeAt Go.RowKit

set_option maxRecDepth 100000 in
theorem logsGoes_lifted (os : Os) (started : os.Started) (H : Type) (enc : TypeId × Value → H) :
    ReturnsInHanded {} Try.checked os 7 .any (Rows.logsGoesSpec.pre6 enc Try.prog Try.f7 Rows.logsGoesRow.domain false) (Rows.logsGoesSpec.post enc Try.prog Try.f7 false true false false) := by
  refine returnsInHanded_of_change_sized (C := Try.checked) Try.own started (by kernel_rfl) Try.func7
    (ChangeSpec.witness6 (enc := enc) (C := Try.checked) false ⟨#[], #[.slice none 0 0, .slice none 0 0], []⟩ 8 (by kernel_rfl) (by kernel_rfl) (by kernel_rfl) (by kernel_rfl)) ?_
  intro W base args ds gs before hval0 hW _ hsz0 _
  have hsz : (DataW.weightsEach Try.prog (Try.f7.params.toList ++ Rows.logsGoesSpec.plain.varTypes Try.prog) (ds ++ gs)).all (· ≤ reachBytes) = true := hsz0
  have hval : ∀ (j : Nat) t v, Try.f7.params[j]? = some t → args[j]? = some v → Value.okWide Try.prog W .any base t v := hval0
  have hW' := hW
  obtain ⟨p, q, hA0, hV, _, _, _⟩ := hW
  have hA : DataW.TrodAll enc Try.prog W 0 (fun _ => true) true Try.f7.params.toList args.toList ds p := hA0
  rw [Try.params7] at hA hval hsz
  obtain ⟨v0, vs0, d0, ds0, p0, q0, hargs, rfl, rfl, h0, r0⟩ := trodAll_cons hA
  obtain ⟨v1, vs1, d1, ds1, p1, q1, rfl, rfl, rfl, h1, r1⟩ := trodAll_cons r0
  obtain ⟨rfl, rfl, rfl⟩ := trodAll_nil r1
  obtain rfl : args = #[v0, v1] := by cases args; simp_all
  obtain ⟨rfl, rfl⟩ := trodVars_none hV
  obtain ⟨A0, n0, cap0, f0, rfl, hm0, hr0⟩ := open_recs (nf := 4) Try.underlying22 Try.underlying40 (by kernel_rfl) (by kernel_rfl) rfl (by intro j f hf; rcases j with _ | _ | _ | _ | j <;> simp at hf <;> subst hf <;> exact Try.underlying3) (hval 0 _ v0 rfl rfl) h0
  obtain ⟨A1, n1, cap1, f1, rfl, hm1, hw1, hr1⟩ := open_nums Try.underlying24 Try.underlying3 (by kernel_rfl) (hval 1 _ v1 rfl rfl) h1
  refine (logsGoes_all A0 n0 cap0 ⟨fun i => f0 (i * 4), fun i => f0 (i * 4 + 1), fun i => f0 (i * 4 + 2), fun i => f0 (i * 4 + 3)⟩ A1 n1 cap1 f1 W ⟨hm0.1.1, slcap_bound hsz (j := 0) rfl rfl Try.underlying22 (b := 32) (by kernel_rfl) hm0.2⟩ (recs4 hr0) ⟨hm1.1.1, slcap_bound hsz (j := 1) rfl rfl Try.underlying24 (b := 8) (by kernel_rfl) hm1.2⟩ hw1 hr1).mono fun e W' ⟨he, hb⟩ => ⟨_, he, ?_⟩
  exact law_post Try.laidOut (by kernel_rfl) (tb := 4) rfl Try.underlying4 rfl hW' rfl rfl rfl hb

theorem logsGoes_holds : Rows.LogsGoesSaid :=
  OpenClaim.holds_of_wide 7 Try.f7 rfl rfl rfl rfl rfl rfl rfl ⟨rfl, rfl, rfl, rfl, rfl⟩ rfl rfl rfl rfl rfl (by kernel_rfl) Try.func7 (by kernel_rfl)
    (of_decide_eq_true (by kernel_rfl)) (by unfold Func.isWrapper; first | (rw [if_pos (by decide +kernel)]; kernel_rfl) | (rw [if_neg (by decide +kernel)]; exact ⟨rfl, rfl⟩))
    (fun os started H enc _ => logsGoes_lifted os started H enc)
end Go.Proofs.Ytfhmabpalimcnaa
