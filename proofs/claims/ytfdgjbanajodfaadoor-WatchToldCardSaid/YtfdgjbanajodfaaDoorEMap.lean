/- Maps that the call itself makes, told by a function of the key, whatever the keys (arrays, structs, integers) and whatever the elements. -/
import Derived.Test.YtfdgjbanajodfaaDoorLay
import Derived.Maps.Keyed
import Derived.Maps.OwnSet
import Derived.WideKeyEntry
import Derived.DeepKeys4
set_option linter.unusedVariables false
set_option linter.unusedSimpArgs false
namespace Go.Proofs.YtfdgjbanajodfaaDoor
open Go.RowKit Go.Maps Go.MapKept

/-- A map's entries: at most n; the keys are κ a for some a of S; at κ a it holds f a, z where there is none. -/
structure EMap {α : Type} (P : Program) (k : TypeId) (z : Value) (κ : α → Value) (S : α → Prop) (n : Nat) (f : α → Value) (es : Array MapEntry) (clock : Nat) : Prop where
  stamped : Stamped es clock
  keys : ∀ x ∈ es.toList, ∃ l, keyOf P k x.key = some l
  size : es.size ≤ n
  dom : ∀ x ∈ es.toList, ∃ a, S a ∧ x.key = κ a
  val : ∀ x ∈ es.toList, ∀ a, x.key = κ a → f a = x.val
  none_ : ∀ a, (∀ x ∈ es.toList, x.key ≠ κ a) → f a = z
def fput {α : Type} [DecidableEq α] (f : α → Value) (a : α) (v : Value) : α → Value := fun b => if b = a then v else f b
section
variable {α : Type} {P : Program} {k : TypeId} {z : Value} {κ : α → Value} {S : α → Prop} {n : Nat} {f : α → Value} {es : Array MapEntry} {clock : Nat} {w : World} {b : Nat} {t e : TypeId}
theorem EMap.empty (P : Program) (k : TypeId) (z : Value) (κ : α → Value) (S : α → Prop) : EMap P k z κ S 0 (fun _ => z) #[] 0 :=
  ⟨stamped_empty 0, fun x hx => by simp at hx, by simp, fun x hx => by simp at hx, fun x hx => by simp at hx, fun _ _ => rfl⟩
theorem EMap.look (h : EMap P k z κ S n f es clock) (hb : w.heap[b]? = some (.map es clock)) (K : Keyed P k) (ht : P.underlying t = some (.map k e)) (hz : (zeroValue e).run P w = .ok z w) (a : α) {kl : Lit} (hkey : keyOf P k (κ a) = some kl) :
    (Instr.lookup t (.map (some b)) (κ a) false).run P w = .ok (f a) w := by
  rcases K.find w hkey es.toList h.keys with ⟨h1, h2⟩ | ⟨j, e0, h1, h2, h3⟩
  · rw [h.none_ a h2]
    simp [Instr.lookup, run_underlying ht, MapKept.run_getObj_map hb, K.check w _ hkey, h1, hz, Result.andThen]
  · rw [h.val e0 (List.mem_of_getElem? h2) a h3]
    simp [Instr.lookup, run_underlying ht, MapKept.run_getObj_map hb, K.check w _ hkey, h1, Result.andThen]
theorem EMap.update [DecidableEq α] (h : EMap P k z κ S n f es clock) (hb : w.heap[b]? = some (.map es clock)) (K : Keyed P k) (ht : P.underlying t = some (.map k e)) (hκ : ∀ a b, κ a = κ b → a = b) (a : α) (hS : S a) {kl : Lit} (hkey : keyOf P k (κ a) = some kl) (v : Value) :
    ∃ es' clock', (Instr.mapUpdate t (.map (some b)) (κ a) v).run P w = .ok () (ChangeMaps.setBlock w b (.map es' clock')) ∧ EMap P k z κ S (n + 1) (fput f a v) es' clock' := by
  rcases K.find w hkey es.toList h.keys with ⟨h1, h2⟩ | ⟨j, e0, h1, h2, h3⟩
  · refine ⟨es.push ⟨κ a, v, clock⟩, clock + 1, ?_, ?_⟩
    · simp [Instr.mapUpdate, run_underlying ht, MapKept.run_getObj_map hb, K.check w false hkey, h1, MapKept.run_setObj_map _ hb, Result.andThen, ChangeMaps.setBlock]
    · have hm : ∀ x, x ∈ (es.push ⟨κ a, v, clock⟩).toList → x ∈ es.toList ∨ x = ⟨κ a, v, clock⟩ := fun x hx => by simpa using hx
      refine ⟨stamped_push h.stamped h2, fun x hx => ?_, by simp; exact h.size, fun x hx => ?_, fun x hx c hc => ?_, fun c hc => ?_⟩
      · rcases hm x hx with hx | rfl
        · exact h.keys x hx
        · exact ⟨kl, hkey⟩
      · rcases hm x hx with hx | rfl
        · exact h.dom x hx
        · exact ⟨a, hS, rfl⟩
      · rcases hm x hx with hx | rfl
        · have hne : c ≠ a := fun e => h2 x hx (by rw [hc, e])
          rw [fput, if_neg hne]; exact h.val x hx c hc
        · rw [fput, if_pos (hκ _ _ hc).symm]
      · have hne : c ≠ a := fun e => hc ⟨κ a, v, clock⟩ (by simp) (by rw [e])
        rw [fput, if_neg hne]
        exact h.none_ c fun x hx => hc x (by simp [hx])
  · refine ⟨es.modify j (fun e' => { e' with key := κ a, val := v }), clock, ?_, ?_⟩
    · have hj : es[j]? = some e0 := by simpa using h2
      simp [Instr.mapUpdate, run_underlying ht, MapKept.run_getObj_map hb, K.check w false hkey, h1, hj, h3, K.stays w hkey, MapKept.run_setObj_map _ hb, Result.andThen, ChangeMaps.setBlock]
    · have hj : es[j]? = some e0 := by simpa using h2
      have hlt : j < es.toList.length := (List.getElem?_eq_some_iff.1 h2).1
      have hm : ∀ x, x ∈ (es.modify j (fun e' => { e' with key := κ a, val := v })).toList → (x.key = κ a ∧ x.val = v) ∨ (x ∈ es.toList ∧ x.key ≠ κ a) := by
        intro x hx
        obtain ⟨i, hi⟩ := List.getElem?_of_mem hx
        rw [Array.getElem?_toList, Array.getElem?_modify] at hi
        by_cases e1 : j = i
        · subst e1
          rw [if_pos rfl, hj] at hi
          simp at hi
          subst hi
          exact .inl ⟨rfl, rfl⟩
        · rw [if_neg e1] at hi
          have hi' : es.toList[i]? = some x := by simpa using hi
          refine .inr ⟨List.mem_of_getElem? hi', ?_⟩
          have hil : i < es.toList.length := (List.getElem?_eq_some_iff.1 hi').1
          have hp := List.pairwise_iff_getElem.1 ((stamped_iff es clock).1 h.stamped).2.2
          rw [← h3]
          have ex : es.toList[i] = x := (List.getElem?_eq_some_iff.1 hi').2
          have ee : es.toList[j] = e0 := (List.getElem?_eq_some_iff.1 h2).2
          rcases Nat.lt_or_gt_of_ne e1 with h4 | h4
          · have := hp j i hlt hil h4
            rw [ex, ee] at this
            exact Ne.symm this
          · have := hp i j hil hlt h4
            rw [ex, ee] at this
            exact this
      have hin : ∃ x ∈ (es.modify j (fun e' => { e' with key := κ a, val := v })).toList, x.key = κ a := by
        refine ⟨{ e0 with key := κ a, val := v }, List.mem_of_getElem? (i := j) ?_, rfl⟩
        rw [Array.getElem?_toList, Array.getElem?_modify, if_pos rfl, hj]
        rfl
      have hback : ∀ x ∈ es.toList, x.key ≠ κ a → x ∈ (es.modify j (fun e' => { e' with key := κ a, val := v })).toList := by
        intro x hx hne
        obtain ⟨i, hi⟩ := List.getElem?_of_mem hx
        refine List.mem_of_getElem? (i := i) ?_
        rw [Array.getElem?_toList, Array.getElem?_modify, if_neg (fun e1 => hne ?_)]
        · simpa using hi
        · subst e1
          rw [h2] at hi
          injection hi with hi
          rw [← hi]; exact h3
      refine ⟨stamped_modify h.stamped j _ (fun _ _ => rfl) (fun x _ hx => ?_), fun x hx => ?_, by simp; have := h.size; omega, fun x hx => ?_, fun x hx c hc => ?_, fun c hc => ?_⟩
      · rw [hj] at hx
        injection hx with hx
        show κ a = x.key
        rw [← hx, h3]
      · rcases hm x hx with ⟨h4, _⟩ | ⟨h4, _⟩
        · rw [h4]; exact ⟨kl, hkey⟩
        · exact h.keys x h4
      · rcases hm x hx with ⟨h4, _⟩ | ⟨h4, _⟩
        · exact ⟨a, hS, h4⟩
        · exact h.dom x h4
      · rcases hm x hx with ⟨h4, h5⟩ | ⟨h4, h5⟩
        · rw [h4] at hc
          rw [fput, if_pos (hκ _ _ hc).symm, h5]
        · have hne : c ≠ a := fun e => h5 (by rw [hc, e])
          rw [fput, if_neg hne]; exact h.val x h4 c hc
      · have hne : c ≠ a := by
          intro e
          obtain ⟨x, hx, hk⟩ := hin
          exact hc x hx (by rw [hk, e])
        rw [fput, if_neg hne]
        refine h.none_ c fun x hx hk => ?_
        by_cases e1 : x.key = κ a
        · exact hne (hκ _ _ (hk.symm.trans e1))
        · exact hc x (hback x hx e1) hk
/-- 'm[k] op= v': the entry is fetched, then stored. -/
theorem EMap.entry [DecidableEq α] (h : EMap P k z κ S n f es clock) (hb : w.heap[b]? = some (.map es clock)) (L : WideMaps.KeyLaw P k) (ht : P.underlying t = some (.map k e)) (hz : ∀ u : World, (zeroValue e).run P u = .ok z u) (hn : n ≤ maxLen) (hκ : ∀ a b, κ a = κ b → a = b) (a : α) (hS : S a) {kl : Lit} (hkey : keyOf P k (κ a) = some kl) :
    ∃ (st : Nat) (es1 : Array MapEntry) (clock1 : Nat), (Instr.mapEntry t (.map (some b)) (κ a)).run P w = .ok (.tuple #[f a, goInt st]) (ChangeMaps.setBlock w b (.map es1 clock1)) ∧
      ∀ (w2 : World) (v : Value), w2.heap[b]? = some (.map es1 clock1) → ∃ es' clock', (Instr.entryStore t (.map (some b)) (goInt st) v).run P w2 = .ok () (ChangeMaps.setBlock w2 b (.map es' clock')) ∧ EMap P k z κ S (n + 1) (fput f a v) es' clock' := by
  have F : WideElems.Fit (H := Unit) P k (fun _ => some (.nil, [])) es clock := by
    refine ⟨Nat.le_trans h.size hn, h.stamped, fun x hx => ?_⟩
    obtain ⟨l, hl⟩ := h.keys x hx
    exact ⟨(l, .nil), by simp [WideElems.rd, hl]⟩
  obtain ⟨v0, st, es1, c1, h1, h2, h3⟩ := WideElems.entry_then_store L ht hz hb F hkey
  have hv0 : v0 = f a := by
    rcases h2 with ⟨e0, he, hk, rfl⟩ | ⟨hno, rfl⟩
    · exact (h.val e0 he a hk).symm
    · exact (h.none_ a hno).symm
  subst hv0
  refine ⟨st, es1, c1, h1, fun w2 v hw2 => ?_⟩
  obtain ⟨es', c', h4, h5⟩ := h3 w2 v hw2
  obtain ⟨es'', c'', h6, h7⟩ := h.update hb (Keyed.of_law L) ht hκ a hS hkey v
  rw [h5] at h6
  injection h6 with _ h6
  have hl : b < w.heap.size := (Array.getElem?_eq_some_iff.1 hb).1
  have := congrArg (fun W : World => W.heap[b]?) h6
  simp [ChangeMaps.setBlock, hl] at this
  obtain ⟨rfl, rfl⟩ := this
  exact ⟨es', c', h4, h7⟩
theorem EMap.same {f' : α → Value} (h : EMap P k z κ S n f es clock) (e : ∀ a, f' a = f a) : EMap P k z κ S n f' es clock :=
  (show f' = f from funext e) ▸ h
theorem modify_same {β : Type} (xs : Array β) (j : Nat) (f g : β → β) {x : β} (hj : xs[j]? = some x) (e : f x = g x) : xs.modify j f = xs.modify j g := by
  apply Array.ext_getElem?
  intro i
  rw [Array.getElem?_modify, Array.getElem?_modify]
  by_cases h : j = i
  · subst h
    rw [if_pos rfl, if_pos rfl, hj]
    simp [e]
  · rw [if_neg h, if_neg h]
/-- Between the two the map holds what it held. -/
theorem EMap.mid [DecidableEq α] (h : EMap P k z κ S n f es clock) (hb : w.heap[b]? = some (.map es clock)) (K : Keyed P k) (ht : P.underlying t = some (.map k e)) (hz : ∀ u : World, (zeroValue e).run P u = .ok z u) (hκ : ∀ a b, κ a = κ b → a = b) (a : α) (hS : S a) {kl : Lit} (hkey : keyOf P k (κ a) = some kl)
    {v0 : Value} {es1 : Array MapEntry} {clock1 : Nat} (hrun : (Instr.mapEntry t (.map (some b)) (κ a)).run P w = .ok v0 (ChangeMaps.setBlock w b (.map es1 clock1))) : EMap P k z κ S (n + 1) f es1 clock1 := by
  obtain ⟨es', c', h4, h5⟩ := h.update hb K ht hκ a hS hkey (f a)
  have hl : b < w.heap.size := (Array.getElem?_eq_some_iff.1 hb).1
  have hf : EMap P k z κ S (n + 1) f es' c' := h5.same fun c => by unfold fput; split <;> simp_all
  have hinj : ∀ (A B : Array MapEntry) (c d : Nat), ChangeMaps.setBlock w b (.map A c) = ChangeMaps.setBlock w b (.map B d) → A = B ∧ c = d := by
    intro A B c d he
    have := congrArg (fun W : World => W.heap[b]?) he
    simpa [ChangeMaps.setBlock, hl] using this
  suffices hs : es1 = es' ∧ clock1 = c' by rw [hs.1, hs.2]; exact hf
  rcases K.find w hkey es.toList h.keys with ⟨h1, h2⟩ | ⟨j, e0, h1, h2, h3⟩
  · have e1 : (Instr.mapEntry t (.map (some b)) (κ a)).run P w = .ok (.tuple #[z, goInt clock]) (ChangeMaps.setBlock w b (.map (es.push ⟨κ a, z, clock⟩) (clock + 1))) := by
      simp [Instr.mapEntry, run_underlying ht, MapKept.run_getObj_map hb, K.check w false hkey, h1, hz, MapKept.run_setObj_map _ hb, Result.andThen, ChangeMaps.setBlock]
    have e2 : (Instr.mapUpdate t (.map (some b)) (κ a) (f a)).run P w = .ok () (ChangeMaps.setBlock w b (.map (es.push ⟨κ a, f a, clock⟩) (clock + 1))) := by
      simp [Instr.mapUpdate, run_underlying ht, MapKept.run_getObj_map hb, K.check w false hkey, h1, MapKept.run_setObj_map _ hb, Result.andThen, ChangeMaps.setBlock]
    rw [hrun] at e1
    rw [h4] at e2
    injection e1 with _ e1
    injection e2 with _ e2
    obtain ⟨rfl, rfl⟩ := hinj _ _ _ _ e1
    obtain ⟨rfl, rfl⟩ := hinj _ _ _ _ e2
    rw [h.none_ a h2]
    exact ⟨rfl, rfl⟩
  · have hj : es[j]? = some e0 := by simpa using h2
    have e1 : ∃ v, (Instr.mapEntry t (.map (some b)) (κ a)).run P w = .ok v (ChangeMaps.setBlock w b (.map (es.modify j fun e' => { e' with key := κ a }) clock)) := by
      refine ⟨.tuple #[e0.val, goInt e0.born], ?_⟩
      simp [Instr.mapEntry, run_underlying ht, MapKept.run_getObj_map hb, K.check w false hkey, h1, hj, h3, K.stays w hkey, MapKept.run_setObj_map _ hb, Result.andThen, ChangeMaps.setBlock]
    have e2 : (Instr.mapUpdate t (.map (some b)) (κ a) (f a)).run P w = .ok () (ChangeMaps.setBlock w b (.map (es.modify j fun e' => { e' with key := κ a, val := f a }) clock)) := by
      simp [Instr.mapUpdate, run_underlying ht, MapKept.run_getObj_map hb, K.check w false hkey, h1, hj, h3, K.stays w hkey, MapKept.run_setObj_map _ hb, Result.andThen, ChangeMaps.setBlock]
    obtain ⟨v, e1⟩ := e1
    rw [hrun] at e1
    rw [h4] at e2
    injection e1 with _ e1
    injection e2 with _ e2
    obtain ⟨rfl, rfl⟩ := hinj _ _ _ _ e1
    obtain ⟨rfl, rfl⟩ := hinj _ _ _ _ e2
    refine ⟨modify_same es j _ _ hj ?_, rfl⟩
    rw [h.val e0 (List.mem_of_getElem? h2) a h3]
end

section
variable {P : Program} {w : World} {ops : Array Oper} {rest : List Oper} {o : Oper} {a : Act} {Q : Exit → Act → World → Prop}
/-- 'm[k]'. -/
theorem wpList_look (hg : o.guard = none) (m x : Operand) (t : TypeId) (hop : o.op = Op.lookup t m x false) {mv key v : Value} (hm : a.eval m = mv) (hx : a.eval x = key) (hrun : (Instr.lookup t mv key false).run P w = .ok v w) (hK : wpList P ops Q rest (a.put o.dst v) w) :
    wpList P ops Q (o :: rest) a w := by
  refine wpList_plain hg fun K' hK' => ?_
  unfold Oper.wp
  simp [execOp, hop, hm, hx, hrun, Result.andThen]
  exact hK' _ _ hK
/-- 'm[k] op= v', its first half. -/
theorem wpList_mapEntry (hg : o.guard = none) (m x : Operand) (t : TypeId) (hop : o.op = Op.mapEntry t m x) {mv key v : Value} {w2 : World} (hm : a.eval m = mv) (hx : a.eval x = key) (hrun : (Instr.mapEntry t mv key).run P w = .ok v w2) (hK : wpList P ops Q rest (a.put o.dst v) w2) :
    wpList P ops Q (o :: rest) a w := by
  refine wpList_plain hg fun K' hK' => ?_
  unfold Oper.wp
  simp [execOp, hop, hm, hx, hrun, Result.andThen]
  exact hK' _ _ hK
/-- 'm[k] op= v', its second half. -/
theorem wpList_entryStore (hg : o.guard = none) (m x y : Operand) (t : TypeId) (hop : o.op = Op.entryStore t m x y) {mv st v : Value} {w2 : World} (hm : a.eval m = mv) (hx : a.eval x = st) (hy : a.eval y = v) (hrun : (Instr.entryStore t mv st v).run P w = .ok () w2) (hK : ∀ u, wpList P ops Q rest (a.put o.dst u) w2) :
    wpList P ops Q (o :: rest) a w := by
  refine wpList_plain hg fun K' hK' => ?_
  unfold Oper.wp
  simp [execOp, hop, hm, hx, hy, hrun, Result.andThen]
  exact hK' _ _ (hK _)
end
end Go.Proofs.YtfdgjbanajodfaaDoor
