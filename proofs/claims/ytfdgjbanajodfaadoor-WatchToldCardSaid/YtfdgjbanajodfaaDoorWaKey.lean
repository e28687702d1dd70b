/- The map of watches: keys of two integers and a name; told by the list of its keys. -/
import Derived.Test.YtfdgjbanajodfaaDoorTrMap
import Derived.Test.YtfdgjbanajodfaaDoorRow
import Derived.DeepKeys4
set_option linter.unusedVariables false
set_option linter.unusedSimpArgs false
namespace Go.Proofs.YtfdgjbanajodfaaDoor
open Go.RowKit Go.Maps Go.MapKept

abbrev WKey := Nat × Nat × Str
theorem lawW : WideMaps.KeyLaw Tryd.prog 72 := deep_law_laid Tryd.laidOut (m := 3) (by omega) (of_decide_eq_true (by kernel_rfl)) (by kernel_rfl) (by rw [Tryd.underlying72])
theorem keyedW : Keyed Tryd.prog 72 := Keyed.of_law lawW
def keyW (p : WKey) : Value := .agg #[.int .i64 (p.1 : Nat), .int .i64 (p.2.1 : Nat), .string (bs p.2.2)]
theorem keyW_inj (p q : WKey) (h : keyW p = keyW q) : p = q := by
  unfold keyW at h
  injection h with h
  have h1 := congrArg (fun a => a[0]?) h
  have h2 := congrArg (fun a => a[1]?) h
  have h3 := congrArg (fun a => a[2]?) h
  simp at h1 h2 h3
  exact Prod.ext (by omega) (Prod.ext (by omega) (bs_inj h3))
theorem wfW {a : Nat} (h : a < 1000) : (Lit.int .i64 (a : Nat)).wf = true := by
  simp [Lit.wf, IntKind.min, IntKind.max, IntKind.signed, IntKind.bits]
  omega
theorem wfWs {s : Str} (h : s.length ≤ 140737488351232) : (Lit.string s).wf = true := by
  simp [Lit.wf]
theorem typeW : Tryd.prog.keyType 72 = true := by kernel_rfl
theorem sizeW : ∃ m, Tryd.prog.types.size = m + 1 := ⟨Tryd.prog.types.size - 1, by have : (0 : Nat) < Tryd.prog.types.size := of_decide_eq_true (by kernel_rfl); omega⟩
theorem cellsW : Tryd.prog.cellsOf 72 = 3 := by kernel_rfl
theorem cellsWi : Tryd.prog.cellsOf 3 = 1 := by kernel_rfl
theorem cellsWs : Tryd.prog.cellsOf 9 = 1 := by kernel_rfl
structure KeyOkW (p : WKey) : Prop where
  a : p.1 < 1000
  b : p.2.1 < 1000
  c : p.2.2.length ≤ 140737488351232
theorem keyKW (p : WKey) (h : KeyOkW p) : ∃ kl, keyOf Tryd.prog 72 (keyW p) = some kl := by
  obtain ⟨m, hm⟩ := sizeW
  have w1 := wfW h.a
  have w2 := wfW h.b
  have w3 : (bs p.2.2).size ≤ maxLen := by rw [bs_size]; have := h.c; unfold maxLen; omega
  have hu := Tryd.underlying72
  unfold keyOf
  rw [hu]
  simp only
  rw [if_pos (by simp [typeW, keyW, Value.formed, hu, cellsW]), hm]
  unfold Program.keyLits
  rw [hu]
  simp [keyW, Value.cells, cellsW, cellsWi, cellsWs, Program.keyLits, Tryd.underlying3, Tryd.underlying9, w1, w2, w3]
/-- The map holds 'true' at just these keys. -/
structure SetW (l : List WKey) (es : Array MapEntry) (c : Nat) : Prop where
  kl : KeyL Tryd.prog 72 keyW l es c
  vl : ∀ x ∈ es.toList, x.val = .bool true
theorem SetW.zero : SetW [] #[] 0 := ⟨KeyL.empty _ _ _, fun x hx => by simp at hx⟩
theorem zeroB (w : World) : (zeroValue 4).run Tryd.prog w = .ok (.bool false) w := by kernel_rfl
theorem SetW.look {l : List WKey} {es : Array MapEntry} {c b : Nat} {w : World} (h : SetW l es c) (hb : w.heap[b]? = some (.map es c)) (p : WKey) (hp : KeyOkW p) :
    (Instr.lookup 66 (.map (some b)) (keyW p) false).run Tryd.prog w = .ok (.bool (decide (p ∈ l))) w := by
  have ht : Tryd.prog.underlying 66 = some (.map 72 4) := Tryd.underlying66
  obtain ⟨kl, hkl⟩ := keyKW p hp
  rcases keyedW.find w hkl es.toList h.kl.2.1 with ⟨h1, h2⟩ | ⟨j, e0, h1, h2, h3⟩
  · have hno : p ∉ l := fun ha => by
      obtain ⟨x, hx, hk⟩ := h.kl.has ha
      exact h2 x hx hk
    rw [decide_eq_false hno]
    simp [Instr.lookup, run_underlying ht, MapKept.run_getObj_map hb, keyedW.check w _ hkl, h1, zeroB w, Result.andThen]
  · have hin : p ∈ l := by
      obtain ⟨a, ha, hk⟩ := h.kl.mem (List.mem_of_getElem? h2)
      rw [h3] at hk
      rwa [keyW_inj _ _ hk]
    have hv : e0.val = .bool true := h.vl e0 (List.mem_of_getElem? h2)
    rw [decide_eq_true hin, ← hv]
    simp [Instr.lookup, run_underlying ht, MapKept.run_getObj_map hb, keyedW.check w _ hkl, h1, Result.andThen]
def addW (l : List WKey) (p : WKey) : List WKey := if p ∈ l then l else l ++ [p]
theorem SetW.put {l : List WKey} {es : Array MapEntry} {c b : Nat} {w : World} (h : SetW l es c) (hb : w.heap[b]? = some (.map es c)) (p : WKey) (hp : KeyOkW p) :
    ∃ es' c', (Instr.mapUpdate 66 (.map (some b)) (keyW p) (.bool true)).run Tryd.prog w = .ok () (ChangeMaps.setBlock w b (.map es' c')) ∧ SetW (addW l p) es' c' := by
  obtain ⟨kl, hkl⟩ := keyKW p hp
  obtain ⟨es', c', h1, h2, h3⟩ := h.kl.putV hb keyedW (t := 66) (e := 4) Tryd.underlying66 keyW_inj p hkl (.bool true)
  refine ⟨es', c', h1, ?_, fun x hx => ?_⟩
  · show KeyL _ _ _ (if p ∈ l then l else l ++ [p]) _ _
    by_cases hm : p ∈ l
    · rw [if_pos hm]; rwa [if_pos hm] at h2
    · rw [if_neg hm]; rwa [if_neg hm] at h2
  · rcases h3 x hx with ⟨_, k2⟩ | ⟨k1, _⟩
    · exact k2
    · exact h.vl x k1
theorem eraseW_at : ∀ {l : List WKey} {j : Nat} {s : WKey}, l.Nodup → l[j]? = some s → l.erase s = l.eraseIdx j
  | [], j, s, _, h => by simp at h
  | a :: l, 0, s, _, h => by
    have : a = s := by simpa using h
    rw [this]; simp
  | a :: l, j + 1, s, hn, h => by
    have h' : l[j]? = some s := by simpa using h
    obtain ⟨h1, h2⟩ := List.nodup_cons.1 hn
    have hne : a ≠ s := fun e => h1 (by rw [e]; exact List.mem_of_getElem? h')
    rw [List.erase_cons_tail (by simpa using hne), eraseW_at h2 h']; rfl
theorem SetW.drop {l : List WKey} {es : Array MapEntry} {c b : Nat} {w : World} (h : SetW l es c) (hb : w.heap[b]? = some (.map es c)) (p : WKey) (hp : KeyOkW p) (hin : p ∈ l) :
    ∃ es', (∀ ty, (Builtin.delete_ #[66, 72] ty #[.map (some b), keyW p]).run Tryd.prog w = .ok (.tuple #[]) (ChangeMaps.setBlock w b (.map es' c))) ∧ SetW (l.erase p) es' c := by
  have ht : Tryd.prog.underlying 66 = some (.map 72 4) := Tryd.underlying66
  obtain ⟨kl, hkl⟩ := keyKW p hp
  rcases keyedW.find w hkl es.toList h.kl.2.1 with ⟨h1, h2⟩ | ⟨j, e0, h1, h2, h3⟩
  · obtain ⟨x, hx, hk⟩ := h.kl.has hin
    exact absurd hk (h2 x hx)
  · refine ⟨es.eraseIdxIfInBounds j, ?_, ⟨stamped_erase h.kl.1 j, fun x hx => ?_, ?_⟩, fun x hx => ?_⟩
    · intro ty; simp [Builtin.delete_, run_underlying ht, MapKept.run_getObj_map hb, keyedW.check w _ hkl, h1, MapKept.run_setObj_map _ hb, Result.andThen, ChangeMaps.setBlock]
    · exact h.kl.2.1 x (List.mem_of_mem_eraseIdx (by simpa using hx))
    · have hj : l[j]? = some p := by
        have h4 : (es.toList.map (·.key))[j]? = some (keyW p) := by rw [List.getElem?_map, h2]; simp [h3]
        rw [h.kl.2.2, List.getElem?_map] at h4
        cases hx : l[j]? with
        | none => rw [hx] at h4; exact absurd h4 (by simp)
        | some a =>
          rw [hx] at h4
          have h5 : keyW a = keyW p := Option.some.inj h4
          rw [keyW_inj _ _ h5]
      show (es.eraseIdxIfInBounds j).toList.map (·.key) = (l.erase p).map keyW
      rw [eraseW_at h.kl.nodup hj]
      have e1 : (es.eraseIdxIfInBounds j).toList = es.toList.eraseIdx j := by simp
      rw [e1, map_erase, map_erase, h.kl.2.2]
    · exact h.vl x (List.mem_of_mem_eraseIdx (by simpa using hx))
theorem SetW.none {l : List WKey} {es : Array MapEntry} {c b : Nat} {w : World} (h : SetW l es c) (hb : w.heap[b]? = some (.map es c)) (p : WKey) (hp : KeyOkW p) (hin : p ∉ l) :
    ∀ ty, (Builtin.delete_ #[66, 72] ty #[.map (some b), keyW p]).run Tryd.prog w = .ok (.tuple #[]) (ChangeMaps.setBlock w b (.map es c)) := by
  have ht : Tryd.prog.underlying 66 = some (.map 72 4) := Tryd.underlying66
  obtain ⟨kl, hkl⟩ := keyKW p hp
  rcases keyedW.find w hkl es.toList h.kl.2.1 with ⟨h1, h2⟩ | ⟨j, e0, h1, h2, h3⟩
  · intro ty; simp [Builtin.delete_, run_underlying ht, MapKept.run_getObj_map hb, keyedW.check w _ hkl, h1, MapKept.run_setObj_map _ hb, Result.andThen, ChangeMaps.setBlock]
  · obtain ⟨a, ha, hk⟩ := h.kl.mem (List.mem_of_getElem? h2)
    rw [h3] at hk
    rw [keyW_inj _ _ hk] at hin
    exact absurd ha hin
/-- delete at a layout: the key is gone. -/
theorem LayM.delW {w0 w : World} {L : List LRow} {Q : List MRow} (h : LayM w0 w L Q) (i b : Nat) (l : List WKey) (hi : Q[i]? = some ⟨b, SetW l⟩) (p : WKey) (hp : KeyOkW p) :
    ∃ w2, (∀ ty, (Builtin.delete_ #[66, 72] ty #[.map (some b), keyW p]).run Tryd.prog w = .ok (.tuple #[]) w2) ∧ LayM w0 w2 L (Q.set i ⟨b, SetW (l.erase p)⟩) := by
  obtain ⟨es, c, hb, hs⟩ := h.mp i hi
  have hs : SetW l es c := hs
  by_cases hin : p ∈ l
  · obtain ⟨es', h1, h2⟩ := hs.drop hb p hp hin
    exact ⟨_, h1, h.setM i hi es' c (SetW (l.erase p)) h2⟩
  · have h2 := h.setM i hi es c (SetW (l.erase p)) (by rw [List.erase_of_not_mem hin]; exact hs)
    exact ⟨_, hs.none hb p hp hin, h2⟩
end Go.Proofs.YtfdgjbanajodfaaDoor
