/- Keys that are structs of two integers: merge's tags. -/
import Derived.Test.YtdgegbdkimdpjaaLayQ
import Derived.Test.YtdgegbdkimdpjaaKeyV
import Derived.Test.YtdgegbdkimdpjaaRow
import Derived.DeepKeys4
set_option linter.unusedVariables false
set_option linter.unusedSimpArgs false
namespace Go.Proofs.Ytdgegbdkimdpjaa
open Go.RowKit Go.Maps Go.MapKept

theorem lawS : WideMaps.KeyLaw Try.prog 58 := deep_law_laid Try.laidOut (m := 2) (by omega) (of_decide_eq_true (by kernel_rfl)) (by kernel_rfl) (by rw [Try.underlying58])
theorem keyedS : Keyed Try.prog 58 := Keyed.of_law lawS
def keyT (p : Nat × Nat) : Value := .agg #[.int .i64 (p.1 : Nat), .int .i64 (p.2 : Nat)]
theorem keyT_inj (p q : Nat × Nat) (h : keyT p = keyT q) : p = q := by
  unfold keyT at h
  injection h with h
  have h1 := congrArg (fun a => a[0]?) h
  have h2 := congrArg (fun a => a[1]?) h
  simp at h1 h2
  exact Prod.ext (by omega) (by omega)
theorem wfT {a : Nat} (h : a < 1000) : (Lit.int .i64 (a : Nat)).wf = true := by
  simp [Lit.wf, IntKind.min, IntKind.max, IntKind.signed, IntKind.bits]
  omega
theorem typeS : Try.prog.keyType 58 = true := by kernel_rfl
theorem sizeS : ∃ m, Try.prog.types.size = m + 1 := ⟨Try.prog.types.size - 1, by have : (0 : Nat) < Try.prog.types.size := of_decide_eq_true (by kernel_rfl); omega⟩
theorem cellsS : Try.prog.cellsOf 58 = 2 := by kernel_rfl
theorem cellsI : Try.prog.cellsOf 3 = 1 := by kernel_rfl
theorem keyS (p : Nat × Nat) (h1 : p.1 < 1000) (h2 : p.2 < 1000) : ∃ kl, keyOf Try.prog 58 (keyT p) = some kl := by
  obtain ⟨m, hm⟩ := sizeS
  have w1 := wfT h1
  have w2 := wfT h2
  have hu := Try.underlying58
  unfold keyOf
  rw [hu]
  simp only
  rw [if_pos (by simp [typeS, keyT, Value.formed, hu, cellsS]), hm]
  unfold Program.keyLits
  rw [hu]
  simp [keyT, Value.cells, cellsS, cellsI, Program.keyLits, Try.underlying3, w1, w2]
theorem seenK_fresh {α : Type} {κ : α → Value} {es : Array MapEntry} {clock : Nat} {seen : Array Nat} (st : Stamped es clock) {e : MapEntry} (he : e ∈ es.toList) {a : α} (ha : e.key = κ a) (hns : seen.contains e.born = false) : ¬ SeenK κ es seen a := by
  rintro ⟨x, hx, hkx, hsx⟩
  have hn : (es.toList.map (·.key)).Nodup := st.2.2
  have : x = e := by
    obtain ⟨q1, hq1⟩ := List.getElem?_of_mem hx
    obtain ⟨q2, hq2⟩ := List.getElem?_of_mem he
    have e1 : (es.toList.map (·.key))[q1]? = some (κ a) := by rw [List.getElem?_map, hq1]; simp [hkx]
    have e2 : (es.toList.map (·.key))[q2]? = some (κ a) := by rw [List.getElem?_map, hq2]; simp [ha]
    have := (List.getElem?_inj (List.getElem?_eq_some_iff.1 e1).1 hn).1 (e1.trans e2.symm)
    subst this
    rw [hq1] at hq2
    exact Option.some.inj hq2
  subst this
  rw [hns] at hsx; cases hsx
theorem LayQ.turned {α : Type} {w0 w w' : World} {L : List LRow} {Q : List MRow} {e : α → TypeId} {f : α → Value} {q : α → List Value} {b r : Nat} {es : Array MapEntry} {clock : Nat} {seen : Array Nat} (h : LayQ w0 w L Q e f q) (hg : w.grownBy w' (some r)) (hr : Rng w b r es clock seen) (hr0 : w0.heap.size ≤ r) : LayQ w0 w' L Q e f q := by
  obtain ⟨c0, h1, _⟩ := hr.it
  refine ⟨h.lm.turned hg hr hr0, fun a => (h.own a).same fun g hga => ?_, h.ap, h.row⟩
  obtain ⟨_, hlt, cur, hc⟩ := (h.own a).has hga
  refine hg.block g hlt fun e1 => ?_
  injection e1 with e1
  subst e1
  rw [h1] at hc
  cases hc
/-- A map that holds 'true' at some tags, and nothing else. -/
def setE (c : Nat × Nat → Bool) (es : Array MapEntry) (cl : Nat) : Prop :=
  ∃ l : List (Nat × Nat), KeyL Try.prog 58 keyT l es cl ∧ (∀ x, x ∈ es.toList → x.val = .bool true) ∧ ∀ p, p ∈ l ↔ c p = true
theorem setE_empty : setE (fun _ => false) #[] 0 := ⟨[], KeyL.empty _ _ _, fun x hx => by simp at hx, fun p => by simp⟩
theorem setE_mem {c : Nat × Nat → Bool} {es : Array MapEntry} {cl : Nat} (h : setE c es cl) {x : MapEntry} (hx : x ∈ es.toList) : ∃ p, c p = true ∧ x.key = keyT p := by
  obtain ⟨l, hl, _, hc⟩ := h
  obtain ⟨a, ha, e⟩ := hl.mem hx
  exact ⟨a, (hc a).1 ha, e⟩
theorem setE_has {c : Nat × Nat → Bool} {es : Array MapEntry} {cl : Nat} (h : setE c es cl) {p : Nat × Nat} (hp : c p = true) : ∃ x, x ∈ es.toList ∧ x.key = keyT p := by
  obtain ⟨l, hl, _, hc⟩ := h
  exact hl.has ((hc p).2 hp)
theorem setE_st {c : Nat × Nat → Bool} {es : Array MapEntry} {cl : Nat} (h : setE c es cl) : Stamped es cl := by
  obtain ⟨l, hl, _⟩ := h
  exact hl.1
theorem setE_map {c : Nat × Nat → Bool} {es : Array MapEntry} {cl : Nat} (h : setE c es cl) : ∃ n, EMap Try.prog 58 (.bool false) keyT (fun _ => True) n (fun a => .bool (c a)) es cl := by
  obtain ⟨l, hl, hv, hc⟩ := h
  refine ⟨es.size, hl.1, hl.2.1, Nat.le_refl _, fun x hx => ?_, fun x hx a ha => ?_, fun a ha => ?_⟩
  · obtain ⟨a, _, h⟩ := hl.mem hx
    exact ⟨a, trivial, h⟩
  · obtain ⟨b, hb, h⟩ := hl.mem hx
    have : a = b := keyT_inj a b (ha.symm.trans h)
    rw [hv x hx, (hc a).1 (this ▸ hb)]
  · have : ¬ c a = true := fun h => by
      obtain ⟨x, hx, e⟩ := hl.has ((hc a).2 h)
      exact ha x hx e
    simp at this
    rw [this]
theorem setE_look {c : Nat × Nat → Bool} {es : Array MapEntry} {cl : Nat} {w : World} {b : Nat} (h : setE c es cl) (hb : w.heap[b]? = some (.map es cl)) (hz : (zeroValue 4).run Try.prog w = .ok (.bool false) w) (p : Nat × Nat) (h1 : p.1 < 1000) (h2 : p.2 < 1000) :
    (Instr.lookup 47 (.map (some b)) (keyT p) false).run Try.prog w = .ok (.bool (c p)) w := by
  obtain ⟨n, hm⟩ := setE_map h
  obtain ⟨kl, hkl⟩ := keyS p h1 h2
  exact EMap.look hm hb keyedS Try.underlying47 hz p hkl
theorem setE_put {c : Nat × Nat → Bool} {es : Array MapEntry} {cl : Nat} {w : World} {b : Nat} (h : setE c es cl) (hb : w.heap[b]? = some (.map es cl)) (p : Nat × Nat) (h1 : p.1 < 1000) (h2 : p.2 < 1000) :
    ∃ es' cl', (Instr.mapUpdate 47 (.map (some b)) (keyT p) (.bool true)).run Try.prog w = .ok () (ChangeMaps.setBlock w b (.map es' cl')) ∧ setE (fun q => c q || decide (q = p)) es' cl' := by
  obtain ⟨l, hl, hv, hc⟩ := h
  obtain ⟨kl, hkl⟩ := keyS p h1 h2
  obtain ⟨es', cl', e1, e2, e3⟩ := hl.putV hb keyedS Try.underlying47 keyT_inj p hkl (.bool true)
  refine ⟨es', cl', e1, _, e2, fun x hx => ?_, fun q => ?_⟩
  · rcases e3 x hx with ⟨_, h⟩ | ⟨h, _⟩
    · exact h
    · exact hv x h
  · by_cases hp : p ∈ l
    · rw [if_pos hp, hc]
      by_cases e : q = p
      · subst e; simp [(hc q).1 hp]
      · simp [e]
    · rw [if_neg hp, List.mem_append, List.mem_singleton, hc]
      by_cases e : q = p
      · simp [e]
      · simp [e]
/-- What is in already may be put in again: all stays as it is. -/
theorem setE_again {c : Nat × Nat → Bool} {es : Array MapEntry} {cl : Nat} {w : World} {b : Nat} (h : setE c es cl) (hb : w.heap[b]? = some (.map es cl)) (p : Nat × Nat) (h1 : p.1 < 1000) (h2 : p.2 < 1000) (hp : c p = true) :
    (Instr.mapUpdate 47 (.map (some b)) (keyT p) (.bool true)).run Try.prog w = .ok () (ChangeMaps.setBlock w b (.map es cl)) := by
  obtain ⟨l, hl, hv, hc⟩ := h
  obtain ⟨kl, hkl⟩ := keyS p h1 h2
  rcases keyedS.find w hkl es.toList hl.2.1 with ⟨f1, f2⟩ | ⟨j, e0, f1, f2, f3⟩
  · exfalso
    obtain ⟨x, hx, e⟩ := hl.has ((hc p).2 hp)
    exact f2 x hx e
  · have hj : es[j]? = some e0 := by simpa using f2
    have hv0 : e0.val = .bool true := hv e0 (List.mem_of_getElem? f2)
    have hes : es.modify j (fun e' => { e' with key := keyT p, val := .bool true }) = es := by
      apply Array.ext_getElem?
      intro i
      rw [Array.getElem?_modify]
      by_cases e1 : j = i
      · subst e1
        rw [if_pos rfl, hj]
        simp only [Option.map_some]
        rw [← f3, ← hv0]
      · rw [if_neg e1]
    simp [Instr.mapUpdate, run_underlying Try.underlying47, MapKept.run_getObj_map hb, keyedS.check w false hkl, f1, hj, f3, keyedS.stays w hkl, MapKept.run_setObj_map _ hb, Result.andThen, ChangeMaps.setBlock]
    exact congrArg (fun e => w.heap.setIfInBounds b (.map e cl)) hes
end Go.Proofs.Ytdgegbdkimdpjaa
