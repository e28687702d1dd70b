/- The walk of tree.Parent. -/
import Derived.Test.YtfdgjbanajodfaaDoorTrMath
import Derived.Test.YtfdgjbanajodfaaDoorText
set_option linter.unusedVariables false
set_option linter.unusedSimpArgs false
namespace Go.Proofs.YtfdgjbanajodfaaDoor
open Go.RowKit Go.Lib

/-- What the last byte 47 of a text is. -/
theorem lastI_is {s : Str} (h : 47 ∈ s) : lastIndexByte (bs s) 47 = ((lastI s : Nat) : Int) ∧ lastI s < s.length ∧ s[lastI s]? = some 47 ∧ ∀ j, lastI s < j → s[j]? ≠ some 47 := by
  have hat : ∀ j, j < s.length → (((bs s).data[j]!).toNat : Int) = ((s[j]!).toNat : Int) := fun j hj => by
    simp [bs, hj]
  rcases lastIndexByte_spec (bs s) 47 with ⟨e, hn⟩ | ⟨i, hi, e, hc, hn⟩
  · exfalso
    obtain ⟨i, hi, he⟩ := List.mem_iff_getElem.1 h
    refine hn i (by rw [bs_size]; exact hi) ?_
    rw [hat i hi, getElem!_pos s i hi, he]; rfl
  · rw [bs_size] at hi hn
    have h1 : lastI s = i := by unfold lastI; rw [e]; simp
    have key : ∀ j, j < s.length → (((bs s).data[j]!).toNat : Int) = 47 → s[j]? = some 47 := fun j hj hx => by
      rw [hat j hj, getElem!_pos s j hj] at hx
      rw [List.getElem?_eq_getElem hj]
      congr 1
      exact UInt8.toNat_inj.1 (by show (s[j]).toNat = 47; omega)
    refine ⟨by rw [e, h1], by rw [h1]; exact hi, by rw [h1]; exact key i hi hc, fun j hj hx => ?_⟩
    rw [h1] at hj
    obtain ⟨hjl, hjx⟩ := List.getElem?_eq_some_iff.1 hx
    refine hn j hj hjl ?_
    rw [hat j hjl, getElem!_pos s j hjl, hjx]; rfl
set_option maxRecDepth 100000 in
set_option maxHeartbeats 800000 in
theorem parent_any (s : Str) (w : World) (h : 47 ∈ s) (hs : s.length ≤ 140737488351232) : Calls Tryd.prog 27 #[.string (bs s)] w fun e w' => e = .returned (.tuple #[.string (bs (parL s)), .string (bs (lstL s))]) ∧ w' = w.drew := by
  obtain ⟨h1, h2, -, -⟩ := lastI_is h
  have hcall : ∀ w, Calls Tryd.prog 36 #[.string (bs s), .int .u8 47] w fun e w' => e = .returned (.int .i64 ((lastI s : Nat) : Int)) ∧ w' = w := fun w => by
    rw [← h1]; exact Tryd.strings_LastIndexByte (bs s) 47 (by rw [bs_size]; omega) w
  have hP : parL s = s.take (max (lastI s) 1) := rfl
  have hL : lstL s = s.drop (lastI s + 1) := rfl
  have HC := Lib.hid hcall
  have hsz := bs_size s
  rw [hP, hL, ← bs_take, ← bs_drop]
  clear hcall h1 hP hL
  generalize lastI s = i at h2 HC ⊢
  go_enter Tryd.func27, Tryd.ntmps27
  go_wp2_with (go_at_call 36; refine (HC.out _).mono ?_; rintro e w' ⟨rfl, rfl⟩)
  refine wp_text_all (by kernel_rfl) (by kernel_rfl) (by kernel_rfl) (by repeat' (first | (with_reducible apply tame_then) | (with_reducible apply tame_block) | (with_reducible apply tame_scope) | exact tame_gives | exact tame_body (fun _ _ h => ⟨_, h.1⟩))) ?_
  go_wp2
  refine headed ?_
  go_wp2
  go_ret2
  exact ⟨by rw [show (max ((i : Nat) : Int) 1).toNat = max i 1 by omega]; rfl, rfl⟩
end Go.Proofs.YtfdgjbanajodfaaDoor
