/- The map of names, in memory. -/
import Derived.Test.YtfdgjbanajodfaaDoorTrMath
import Derived.Test.YtfdgjbanajodfaaDoorKeyV
import Derived.Test.YtfdgjbanajodfaaDoorUpdE
import Derived.StringKeys
set_option linter.unusedVariables false
set_option linter.unusedSimpArgs false
namespace Go.Proofs.YtfdgjbanajodfaaDoor
open Go.RowKit Go.Maps Go.MapKept

def nodeV (d : Str) (v : Nat) : Value := .agg #[.string (bs d), .int .i64 (v : Nat)]
def κS (s : Str) : Value := .string (bs s)
theorem κS_inj (a b : Str) (h : κS a = κS b) : a = b := by
  injection h with h
  exact bs_inj h
theorem strK : Keyed Tryd.prog 9 := string_keyed Tryd.underlying9
theorem strKey (s : Str) (hs : s.length ≤ 140737488351232) : keyOf Tryd.prog 9 (κS s) = some (.string s) :=
  WideMaps.keyOf_string_mk Tryd.underlying9 (by rw [bs_size]; unfold maxLen; omega)
theorem zeroNode (w : World) : (zeroValue 83).run Tryd.prog w = .ok (nodeV [] 0) w := by kernel_rfl
/-- The map's entries. -/
structure TrE (st : TS) (es : Array MapEntry) (c : Nat) : Prop where
  kl : KeyL Tryd.prog 9 κS st.ks es c
  vl : ∀ x ∈ es.toList, ∀ s, x.key = κS s → x.val = nodeV (st.dat s) (st.ver s)
theorem TrE.nodup {st : TS} {es : Array MapEntry} {c : Nat} (h : TrE st es c) : st.ks.Nodup := h.kl.nodup
theorem TrE.look {st : TS} {es : Array MapEntry} {c b : Nat} {w : World} (h : TrE st es c) (hb : w.heap[b]? = some (.map es c)) (s : Str) (hs : s.length ≤ 140737488351232) :
    (Instr.lookup 84 (.map (some b)) (κS s) true).run Tryd.prog w = .ok (.tuple #[if s ∈ st.ks then nodeV (st.dat s) (st.ver s) else nodeV [] 0, .bool (decide (s ∈ st.ks))]) w := by
  have ht : Tryd.prog.underlying 84 = some (.map 9 83) := Tryd.underlying84
  rcases strK.find w (strKey s hs) es.toList h.kl.2.1 with ⟨h1, h2⟩ | ⟨j, e0, h1, h2, h3⟩
  · have hno : s ∉ st.ks := fun ha => by
      obtain ⟨x, hx, hk⟩ := h.kl.has ha
      exact h2 x hx hk
    rw [if_neg hno, decide_eq_false hno]
    simp [Instr.lookup, run_underlying ht, MapKept.run_getObj_map hb, strK.check w _ (strKey s hs), h1, zeroNode w, Result.andThen]
  · have hin : s ∈ st.ks := by
      obtain ⟨a, ha, hk⟩ := h.kl.mem (List.mem_of_getElem? h2)
      rw [h3] at hk
      rwa [κS_inj _ _ hk]
    rw [if_pos hin, decide_eq_true hin, ← h.vl e0 (List.mem_of_getElem? h2) s h3]
    simp [Instr.lookup, run_underlying ht, MapKept.run_getObj_map hb, strK.check w _ (strKey s hs), h1, Result.andThen]
theorem TrE.put {st : TS} {es : Array MapEntry} {c b : Nat} {w : World} (h : TrE st es c) (hb : w.heap[b]? = some (.map es c)) (s d : Str) (v : Nat) (hs : s.length ≤ 140737488351232) :
    ∃ es' c', (Instr.mapUpdate 84 (.map (some b)) (κS s) (nodeV d v)).run Tryd.prog w = .ok () (ChangeMaps.setBlock w b (.map es' c')) ∧ TrE (putS st s d v) es' c' := by
  obtain ⟨es', c', h1, h2, h3⟩ := h.kl.putV hb strK (t := 84) (e := 83) Tryd.underlying84 κS_inj s (strKey s hs) (nodeV d v)
  refine ⟨es', c', h1, ?_, fun x hx a ha => ?_⟩
  · show KeyL _ _ _ (if s ∈ st.ks then st.ks else st.ks ++ [s]) _ _
    by_cases hm : s ∈ st.ks
    · rw [if_pos hm]; rwa [if_pos hm] at h2
    · rw [if_neg hm]; rwa [if_neg hm] at h2
  show x.val = nodeV (if a = s then d else st.dat a) (if a = s then v else st.ver a)
  rcases h3 x hx with ⟨k1, k2⟩ | ⟨k1, k2⟩
  · have : a = s := κS_inj _ _ (ha.symm.trans k1)
    rw [if_pos this, if_pos this, k2]
  · have : a ≠ s := fun e => k2 (by rw [ha, e])
    rw [if_neg this, if_neg this]
    exact h.vl x k1 a ha
theorem erase_at : ∀ {l : List Str} {j : Nat} {s : Str}, l.Nodup → l[j]? = some s → l.erase s = l.eraseIdx j
  | [], j, s, _, h => by simp at h
  | a :: l, 0, s, _, h => by
    have : a = s := by simpa using h
    rw [this]; simp
  | a :: l, j + 1, s, hn, h => by
    have h' : l[j]? = some s := by simpa using h
    obtain ⟨h1, h2⟩ := List.nodup_cons.1 hn
    have hne : a ≠ s := fun e => h1 (by rw [e]; exact List.mem_of_getElem? h')
    rw [List.erase_cons_tail (by simpa using hne), erase_at h2 h']; rfl
theorem map_erase {α β : Type} (f : α → β) : ∀ (l : List α) (j : Nat), (l.eraseIdx j).map f = (l.map f).eraseIdx j
  | [], _ => by simp
  | a :: l, 0 => rfl
  | a :: l, j + 1 => by
    show f a :: (l.eraseIdx j).map f = f a :: (l.map f).eraseIdx j
    rw [map_erase f l j]
theorem stamped_erase {es : Array MapEntry} {c : Nat} (h : Stamped es c) (j : Nat) : Stamped (es.eraseIdxIfInBounds j) c := by
  have hl : (es.eraseIdxIfInBounds j).toList = es.toList.eraseIdx j := by simp
  refine ⟨fun x hx => ?_, ?_, ?_⟩
  · rw [hl] at hx
    exact h.1 x (List.mem_of_mem_eraseIdx hx)
  · rw [hl]
    exact h.2.1.sublist ((List.eraseIdx_sublist _ _).map _)
  · rw [hl]
    exact h.2.2.sublist ((List.eraseIdx_sublist _ _).map _)
theorem TrE.drop {st : TS} {es : Array MapEntry} {c b : Nat} {w : World} (h : TrE st es c) (hb : w.heap[b]? = some (.map es c)) (s : Str) (hs : s.length ≤ 140737488351232) (hin : s ∈ st.ks) :
    ∃ es', (∀ ty, (Builtin.delete_ #[84, 9] ty #[.map (some b), κS s]).run Tryd.prog w = .ok (.tuple #[]) (ChangeMaps.setBlock w b (.map es' c))) ∧ TrE (dropS st s) es' c := by
  have ht : Tryd.prog.underlying 84 = some (.map 9 83) := Tryd.underlying84
  rcases strK.find w (strKey s hs) es.toList h.kl.2.1 with ⟨h1, h2⟩ | ⟨j, e0, h1, h2, h3⟩
  · obtain ⟨x, hx, hk⟩ := h.kl.has hin
    exact absurd hk (h2 x hx)
  · refine ⟨es.eraseIdxIfInBounds j, ?_, ⟨stamped_erase h.kl.1 j, fun x hx => ?_, ?_⟩, fun x hx a ha => ?_⟩
    · intro ty; simp [Builtin.delete_, run_underlying ht, MapKept.run_getObj_map hb, strK.check w _ (strKey s hs), h1, MapKept.run_setObj_map _ hb, Result.andThen, ChangeMaps.setBlock]
    · exact h.kl.2.1 x (List.mem_of_mem_eraseIdx (by simpa using hx))
    · have hj : st.ks[j]? = some s := by
        have h4 : (es.toList.map (·.key))[j]? = some (κS s) := by rw [List.getElem?_map, h2]; simp [h3]
        rw [h.kl.2.2, List.getElem?_map] at h4
        cases hx : st.ks[j]? with
        | none => rw [hx] at h4; exact absurd h4 (by simp)
        | some a =>
          rw [hx] at h4
          have h5 : κS a = κS s := Option.some.inj h4
          rw [κS_inj _ _ h5]
      have he : st.ks.erase s = st.ks.eraseIdx j := by
        exact erase_at h.nodup hj
      show (es.eraseIdxIfInBounds j).toList.map (·.key) = (st.ks.erase s).map κS
      rw [he]
      have e1 : (es.eraseIdxIfInBounds j).toList = es.toList.eraseIdx j := by simp
      rw [e1, map_erase, map_erase, h.kl.2.2]
    · exact h.vl x (List.mem_of_mem_eraseIdx (by simpa using hx)) a ha
theorem TrE.len {st : TS} {es : Array MapEntry} {c : Nat} (h : TrE st es c) : es.size = st.ks.length := h.kl.len
section
variable {P : Program} {w w' : World} {ops : Array Oper} {rest : List Oper} {o : Oper} {a : Act} {Q : Exit → Act → World → Prop}
theorem wpList_lookC (hg : o.guard = none) (m x : Operand) (t : TypeId) (hop : o.op = Op.lookup t m x true) {mv key v : Value} (hm : a.eval m = mv) (hx : a.eval x = key) (hrun : (Instr.lookup t mv key true).run P w = .ok v w) (hK : wpList P ops Q rest (a.put o.dst v) w) :
    wpList P ops Q (o :: rest) a w := by
  refine wpList_plain hg fun K' hK' => ?_
  unfold Oper.wp
  simp [execOp, hop, hm, hx, hrun, Result.andThen]
  exact hK' _ _ hK
theorem wpList_delC (hg : o.guard = none) (m x : Operand) (t k : TypeId) (hop : o.op = Op.call { callee := Callee.builtin Builtin.delete, args := #[m, x], argTypes := #[t, k] }) {mv key : Value} (hm : a.eval m = mv) (hx : a.eval x = key)
    (hrun : (Builtin.delete_ #[t, k] o.type #[mv, key]).run P w = .ok (.tuple #[]) w') (hK : wpList P ops Q rest (a.put o.dst (.tuple #[])) w') : wpList P ops Q (o :: rest) a w := by
  refine wpList_plain hg fun K' hK' => ?_
  unfold Oper.wp
  simp [execOp, hop, resolve, invoke, builtin, hm, hx, hrun, Result.andThen]
  exact hK' _ _ hK
end
end Go.Proofs.YtfdgjbanajodfaaDoor
