/- A place that is watched, in plain functions. -/
import Derived.Test.YtfdgjbanajodfaaDoorWaKey
import Derived.Test.YtfdgjbanajodfaaDoorTrDds
set_option linter.unusedVariables false
set_option linter.unusedSimpArgs false
namespace Go.Proofs.YtfdgjbanajodfaaDoor
open Go.RowKit

structure AskX where
  who : Int
  watch : Bool
  deed : Deed
structure WS where
  st : TS
  ws : List WKey
  nt : Nat → List (Nat × Str)
def vset {α : Type} (f : Nat → α) (i : Nat) (v : α) : Nat → α := fun j => if j = i then v else f j
theorem vset_at {α : Type} (f : Nat → α) (i : Nat) (v : α) : vset f i v i = v := if_pos rfl
theorem vset_ne {α : Type} (f : Nat → α) {i j : Nat} (v : α) (h : j ≠ i) : vset f i v j = f j := if_neg h
def W0 : WS := ⟨T0, [], fun _ => []⟩
def fireW (f : Bool) (l : List WKey) : List WKey → Bool × List WKey
  | [] => (f, l)
  | k :: ks => fireW (f || decide (k ∈ l)) (l.erase k) ks
def keysW (d : Deed) (i : Nat) : List WKey :=
  if d.kind = 2 then [(i, 4, d.path)] else if d.kind = 1 then [(i, 5, parL d.path)] else if d.kind = 3 then [(i, 4, d.path), (i, 5, d.path), (i, 5, parL d.path)] else []
def tell1 (d : Deed) (i : Nat) (σ : WS) : WS :=
  ⟨σ.st, (fireW false σ.ws (keysW d i)).2, if (fireW false σ.ws (keysW d i)).1 then vset σ.nt i (σ.nt i ++ [(d.kind.toNat, d.path)]) else σ.nt⟩
def tellN (d : Deed) (σ : WS) : Nat → WS
  | 0 => σ
  | n + 1 => tell1 d n (tellN d σ n)
def watchW (σ : WS) (x : AskX) : WS := if x.watch = true ∧ 4 ≤ x.deed.kind then { σ with ws := addW σ.ws (x.who.toNat, x.deed.kind.toNat, x.deed.path) } else σ
def askW (σ : WS) (x : AskX) : Ans × WS :=
  if ¬ (0 ≤ x.who ∧ x.who < 6) then (A0 2, σ)
  else if (doS σ.st x.deed).1.code ≠ 0 then ((doS σ.st x.deed).1, { σ with st := (doS σ.st x.deed).2 })
  else ((doS σ.st x.deed).1, watchW (tellN x.deed { σ with st := (doS σ.st x.deed).2 } 6) x)
def wst (X : Nat → AskX) : Nat → WS
  | 0 => W0
  | j + 1 => (askW (wst X j) (X j)).2
def wans (X : Nat → AskX) (j : Nat) : Ans := (askW (wst X j) (X j)).1
theorem tell_st (d : Deed) (σ : WS) : ∀ n, (tellN d σ n).st = σ.st
  | 0 => rfl
  | n + 1 => tell_st d σ n
theorem watch_st (σ : WS) (x : AskX) : (watchW σ x).st = σ.st := by unfold watchW; split <;> rfl
theorem watch_nt (σ : WS) (x : AskX) : (watchW σ x).nt = σ.nt := by unfold watchW; split <;> rfl
theorem ask_bad {σ : WS} {x : AskX} (h : ¬ (0 ≤ x.who ∧ x.who < 6)) : askW σ x = (A0 2, σ) := if_pos h
theorem ask_st {σ : WS} {x : AskX} (h : 0 ≤ x.who ∧ x.who < 6) : (askW σ x).1 = (doS σ.st x.deed).1 ∧ (askW σ x).2.st = (doS σ.st x.deed).2 := by
  unfold askW
  rw [if_neg (not_not_intro h)]
  split
  · exact ⟨rfl, rfl⟩
  · exact ⟨rfl, (watch_st _ _).trans (tell_st _ _ _)⟩
/-- A deed that was told OK names a name. -/
theorem code_name {st : TS} {d : Deed} (h : (doS st d).1.code = 0) : nameB d.path = true ∧ 1 ≤ d.kind ∧ d.kind ≤ 5 := by
  unfold doS at h
  by_cases c1 : d.kind < 1 ∨ 5 < d.kind
  · rw [if_pos c1] at h; exact absurd h (show ¬ (6 : Int) = 0 by decide)
  rw [if_neg c1] at h
  by_cases c2 : nameB d.path = false
  · rw [if_pos c2] at h; exact absurd h (show ¬ (3 : Int) = 0 by decide)
  exact ⟨by simpa using c2, by omega, by omega⟩
/-- What holds at any time. -/
structure WB (k : Nat) (σ : WS) : Prop where
  tr : TrB k σ.st
  ky : ∀ p ∈ σ.ws, KeyOkW p
  nt : ∀ i, (σ.nt i).length ≤ k
theorem fire_sub (f : Bool) : ∀ (ks l : List WKey) (p : WKey), p ∈ (fireW f l ks).2 → p ∈ l
  | [], l, p, h => h
  | k :: ks, l, p, h => List.mem_of_mem_erase (fire_sub _ ks _ p h)
theorem parL_len (s : Str) : (parL s).length ≤ s.length := by
  unfold parL; rw [List.length_take]; omega
theorem tell_ws (d : Deed) (σ : WS) : ∀ n p, p ∈ (tellN d σ n).ws → p ∈ σ.ws
  | 0, p, h => h
  | n + 1, p, h => tell_ws d σ n p (fire_sub _ _ _ p h)
theorem tell1_nt (d : Deed) (n : Nat) (σ : WS) (i : Nat) : (tell1 d n σ).nt i = if i = n ∧ (fireW false σ.ws (keysW d n)).1 = true then σ.nt n ++ [(d.kind.toNat, d.path)] else σ.nt i := by
  show (if (fireW false σ.ws (keysW d n)).1 = true then vset σ.nt n (σ.nt n ++ [(d.kind.toNat, d.path)]) else σ.nt) i = _
  by_cases hf : (fireW false σ.ws (keysW d n)).1 = true
  · rw [if_pos hf]
    by_cases e : i = n
    · rw [if_pos ⟨e, hf⟩, e, vset_at]
    · rw [if_neg (fun h => e h.1), vset_ne _ _ e]
  · rw [if_neg hf, if_neg (fun h => hf h.2)]
theorem tell_ge (d : Deed) (σ : WS) : ∀ n i, n ≤ i → (tellN d σ n).nt i = σ.nt i
  | 0, _, _ => rfl
  | n + 1, i, h => by
    show (tell1 d n (tellN d σ n)).nt i = _
    rw [tell1_nt, if_neg (fun h2 => by have := h2.1; omega)]
    exact tell_ge d σ n i (by omega)
theorem tell_le (d : Deed) (σ : WS) : ∀ n i, ((tellN d σ n).nt i).length ≤ (σ.nt i).length + 1
  | 0, _ => Nat.le_succ _
  | n + 1, i => by
    show ((tell1 d n (tellN d σ n)).nt i).length ≤ _
    rw [tell1_nt]
    split
    · rename_i h
      rw [h.1, List.length_append, tell_ge d σ n n (Nat.le_refl _)]
      exact Nat.le_refl _
    · exact tell_le d σ n i
theorem ask_err {σ : WS} {x : AskX} (hw : 0 ≤ x.who ∧ x.who < 6) (hc : (doS σ.st x.deed).1.code ≠ 0) : askW σ x = ((doS σ.st x.deed).1, ⟨(doS σ.st x.deed).2, σ.ws, σ.nt⟩) := by
  unfold askW
  rw [if_neg (not_not_intro hw), if_pos hc]
theorem ask_ok {σ : WS} {x : AskX} (hw : 0 ≤ x.who ∧ x.who < 6) (hc : (doS σ.st x.deed).1.code = 0) : askW σ x = ((doS σ.st x.deed).1, watchW (tellN x.deed ⟨(doS σ.st x.deed).2, σ.ws, σ.nt⟩ 6) x) := by
  unfold askW
  rw [if_neg (not_not_intro hw), if_neg (not_not_intro hc)]
theorem watch_ws {σ : WS} {x : AskX} {p : WKey} (h : p ∈ (watchW σ x).ws) : p ∈ σ.ws ∨ (4 ≤ x.deed.kind ∧ p = (x.who.toNat, x.deed.kind.toNat, x.deed.path)) := by
  unfold watchW at h
  by_cases hc : x.watch = true ∧ 4 ≤ x.deed.kind
  · rw [if_pos hc] at h
    have h : p ∈ addW σ.ws (x.who.toNat, x.deed.kind.toNat, x.deed.path) := h
    unfold addW at h
    by_cases hm : (x.who.toNat, x.deed.kind.toNat, x.deed.path) ∈ σ.ws
    · rw [if_pos hm] at h; exact .inl h
    · rw [if_neg hm] at h
      rcases List.mem_append.1 h with h | h
      · exact .inl h
      · exact .inr ⟨hc.2, List.mem_singleton.1 h⟩
  · rw [if_neg hc] at h; exact .inl h
theorem WB.next {k : Nat} {σ : WS} (h : WB k σ) (x : AskX) (hd : DeedL x.deed) : WB (k + 1) (askW σ x).2 := by
  by_cases hw : 0 ≤ x.who ∧ x.who < 6
  · have htr : TrB (k + 1) (doS σ.st x.deed).2 := h.tr.next hd (next_is _ _)
    by_cases hc : (doS σ.st x.deed).1.code = 0
    · have hk := code_name hc
      rw [ask_ok hw hc]
      generalize (doS σ.st x.deed).2 = st2 at htr ⊢
      refine ⟨?_, fun p hp => ?_, fun i => ?_⟩
      · show TrB (k + 1) (watchW (tellN x.deed ⟨st2, σ.ws, σ.nt⟩ 6) x).st
        rw [watch_st, tell_st]; exact htr
      · rcases watch_ws hp with hp | ⟨_, rfl⟩
        · exact h.ky p (tell_ws x.deed ⟨st2, σ.ws, σ.nt⟩ 6 p hp)
        · exact ⟨by show x.who.toNat < 1000; omega, by show x.deed.kind.toNat < 1000; omega, hd.pl⟩
      · show ((watchW (tellN x.deed ⟨st2, σ.ws, σ.nt⟩ 6) x).nt i).length ≤ k + 1
        rw [watch_nt]
        exact Nat.le_trans (tell_le x.deed ⟨st2, σ.ws, σ.nt⟩ 6 i) (Nat.succ_le_succ (h.nt i))
    · rw [ask_err hw hc]
      exact ⟨htr, h.ky, fun i => Nat.le_succ_of_le (h.nt i)⟩
  · rw [ask_bad hw]
    exact ⟨⟨h.tr.key, h.tr.len, fun s => Nat.le_succ_of_le (h.tr.ver s), h.tr.root, h.tr.up⟩, h.ky, fun i => Nat.le_succ_of_le (h.nt i)⟩
theorem wst_ok (X : Nat → AskX) : ∀ j, (∀ i, i < j → DeedL (X i).deed) → WB j (wst X j)
  | 0, _ => ⟨T0_ok, fun p hp => absurd hp (List.not_mem_nil), fun _ => Nat.le_refl _⟩
  | j + 1, h => (wst_ok X j fun i hi => h i (by omega)).next _ (h j (by omega))
end Go.Proofs.YtfdgjbanajodfaaDoor
