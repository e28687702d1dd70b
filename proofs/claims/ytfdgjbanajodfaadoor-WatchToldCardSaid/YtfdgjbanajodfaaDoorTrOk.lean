/- What holds of the names behind any deeds: plain. -/
import Derived.Test.YtfdgjbanajodfaaDoorTrDo
set_option linter.unusedVariables false
set_option linter.unusedSimpArgs false
namespace Go.Proofs.YtfdgjbanajodfaaDoor
open Go.RowKit

/-- What a deed may turn. -/
inductive Next (st : TS) (d : Deed) : TS → Prop where
  | same : Next st d st
  | make : nameB d.path = true → d.path ∉ st.ks → parL d.path ∈ st.ks → st.ks.length < 12 → Next st d (putS st d.path d.data 0)
  | set : d.path ∈ st.ks → Next st d (putS st d.path d.data (st.ver d.path + 1))
  | drop : d.path ∈ st.ks → d.path ≠ [47] → partsOf st.ks d.path = [] → Next st d (dropS st d.path)
theorem next_is (st : TS) (d : Deed) : Next st d (doS st d).2 := by
  unfold doS
  by_cases c1 : d.kind < 1 ∨ 5 < d.kind
  · rw [if_pos c1]; exact .same
  rw [if_neg c1]
  by_cases c2 : nameB d.path = false
  · rw [if_pos c2]; exact .same
  rw [if_neg c2]
  by_cases c3 : (d.kind = 1 ∨ d.kind = 2) ∧ 20 < d.data.length
  · rw [if_pos c3]; exact .same
  rw [if_neg c3]
  by_cases c4 : d.kind = 1
  · rw [if_pos c4]
    show Next st d (buildS st d).2
    unfold buildS
    by_cases b1 : d.path ∈ st.ks
    · rw [if_pos b1]; exact .same
    rw [if_neg b1]
    by_cases b2 : parL d.path ∉ st.ks
    · rw [if_pos b2]; exact .same
    rw [if_neg b2]
    by_cases b3 : 12 ≤ st.ks.length
    · rw [if_pos b3]; exact .same
    rw [if_neg b3]
    exact .make (by simpa using c2) b1 (Classical.not_not.1 b2) (by omega)
  rw [if_neg c4]
  by_cases c5 : d.kind = 3 ∧ d.path = [47]
  · rw [if_pos c5]; exact .same
  rw [if_neg c5]
  by_cases c6 : d.path ∉ st.ks
  · rw [if_pos c6]; exact .same
  rw [if_neg c6]
  have hin : d.path ∈ st.ks := Classical.not_not.1 c6
  by_cases c7 : d.kind = 4
  · rw [if_pos c7]; exact .same
  rw [if_neg c7]
  by_cases c8 : d.kind = 5
  · rw [if_pos c8]; exact .same
  rw [if_neg c8]
  by_cases c9 : 0 ≤ d.version ∧ d.version ≠ st.ver d.path
  · rw [if_pos c9]; exact .same
  rw [if_neg c9]
  by_cases c10 : d.kind = 2
  · rw [if_pos c10]; exact .set hin
  rw [if_neg c10]
  by_cases c11 : partsOf st.ks d.path ≠ []
  · rw [if_pos c11]; exact .same
  rw [if_neg c11]
  exact .drop hin (fun e => c5 ⟨by omega, e⟩) (Classical.not_not.1 c11)
structure TrB (k : Nat) (st : TS) : Prop where
  key : ∀ s ∈ st.ks, nameB s = true ∧ s.length ≤ 140737488351232
  len : st.ks.length ≤ 12
  ver : ∀ s, st.ver s ≤ k
  root : [47] ∈ st.ks
  up : ∀ s ∈ st.ks, parL s ∈ st.ks
theorem TrB.ok {k : Nat} {st : TS} (h : TrB k st) (hk : k ≤ 1000) : TrOk st := ⟨h.key, h.len, fun s => Nat.le_trans (h.ver s) hk⟩
theorem parL_root : parL [47] = [47] := by decide
theorem T0_ok : TrB 0 T0 := by
  refine ⟨fun s hs => ?_, by simp [T0], fun _ => Nat.le_refl _, by simp [T0], fun s hs => ?_⟩
  · obtain rfl : s = [47] := by simpa [T0] using hs
    exact ⟨rfl, by simp⟩
  · obtain rfl : s = [47] := by simpa [T0] using hs
    rw [parL_root]; exact hs
theorem mem_partsOf {ks : List Str} {p s : Str} (h : s ∈ ks) (h2 : parL s = p) (h3 : s ≠ [47]) : lstL s ∈ partsOf ks p :=
  List.mem_map.2 ⟨s, List.mem_filter.2 ⟨h, by simp [isBel, h2, h3]⟩, rfl⟩
theorem TrB.next {k : Nat} {st st' : TS} {d : Deed} (h : TrB k st) (hd : DeedL d) (hn : Next st d st') : TrB (k + 1) st' := by
  have hv : ∀ s, st.ver s ≤ k + 1 := fun s => Nat.le_succ_of_le (h.ver s)
  cases hn with
  | same => exact ⟨h.key, h.len, hv, h.root, h.up⟩
  | make c1 c2 c3 c4 =>
    have e : (putS st d.path d.data 0).ks = st.ks ++ [d.path] := if_neg c2
    refine ⟨fun s hs => ?_, by rw [e]; simp; omega, fun s => ?_, by rw [e]; simp [h.root], fun s hs => ?_⟩
    · rw [e] at hs
      rcases List.mem_append.1 hs with hs | hs
      · exact h.key s hs
      · obtain rfl := List.mem_singleton.1 hs
        exact ⟨c1, hd.pl⟩
    · show (if s = d.path then 0 else st.ver s) ≤ k + 1
      split
      · omega
      · exact hv s
    · rw [e] at hs ⊢
      rcases List.mem_append.1 hs with hs | hs
      · exact List.mem_append.2 (.inl (h.up s hs))
      · obtain rfl := List.mem_singleton.1 hs
        exact List.mem_append.2 (.inl c3)
  | set c1 =>
    have e : (putS st d.path d.data (st.ver d.path + 1)).ks = st.ks := if_pos c1
    refine ⟨fun s hs => h.key s (by rwa [e] at hs), by rw [e]; exact h.len, fun s => ?_, by rw [e]; exact h.root, fun s hs => by rw [e] at hs ⊢; exact h.up s hs⟩
    show (if s = d.path then st.ver d.path + 1 else st.ver s) ≤ k + 1
    split
    · exact Nat.succ_le_succ (h.ver _)
    · exact hv s
  | drop c1 c2 c3 =>
    have hin : ∀ s, s ∈ (dropS st d.path).ks → s ∈ st.ks := fun s hs => List.mem_of_mem_erase hs
    refine ⟨fun s hs => h.key s (hin s hs), Nat.le_trans (List.length_erase_le ..) h.len, hv, (List.mem_erase_of_ne (Ne.symm c2)).2 h.root, fun s hs => ?_⟩
    by_cases e : parL s = d.path
    · exfalso
      by_cases e2 : s = [47]
      · rw [e2, parL_root] at e; exact c2 e.symm
      · have := mem_partsOf (hin s hs) e e2
        rw [c3] at this; cases this
    · exact (List.mem_erase_of_ne e).2 (h.up s (hin s hs))
theorem run_ok (D : Nat → Deed) : ∀ j, (∀ i, i < j → DeedL (D i)) → TrB j (runS T0 D j)
  | 0, _ => T0_ok
  | j + 1, h => (run_ok D j fun i hi => h i (by omega)).next (h j (by omega)) (next_is _ _)
end Go.Proofs.YtfdgjbanajodfaaDoor
