/- The walk of merge.Play, its answer: what stands behind the runs. -/
import Derived.Test.YtdgegbdkimdpjaaMe6
set_option linter.unusedVariables false
set_option linter.unusedSimpArgs false
namespace Go.Proofs.Ytdgegbdkimdpjaa
open Go.RowKit Go.Maps Go.MapKept

theorem QSl.clip {w : World} {base : Nat} {e : TypeId} {A : Option Addr} {n cap : Nat} {xs : List Value} (h : QSl w base e (.slice A n cap) xs) (hn : n = xs.length) : QSl w base e (.slice A n n) xs := by
  rcases h with ⟨h1, h2⟩ | ⟨g, off, cap', cur, h1, h2, h3, h4, h5, h6, h7⟩
  · injection h1 with a b c
    subst a b c
    subst h2
    exact QSl.nil _ _ _
  · injection h1 with a b c
    subst a b c
    exact .inr ⟨g, off, xs.length, cur, rfl, h2, h3, Nat.le_refl _, by omega, by omega, h7⟩
set_option maxHeartbeats 400000 in
theorem clip_any (A : Option Addr) (n cap : Nat) (w : World) (hn : n ≤ cap) (hc : cap ≤ maxLen) :
    Calls Try.prog 17 #[.slice A n cap] w fun e w' => e = .returned (.slice A n n) ∧ w = w' := by
  unfold maxLen at hc
  rcases A with _ | ad
  all_goals
    go_enter Try.func17, Try.ntmps17
    go_wp2
    all_goals first
      | (exfalso; omega)
      | (go_ret; exact ⟨rfl, rfl⟩)
/-- The answer's slices behind p copies, and what has been found of the next one. -/
def qsP (n : Nat) (s : MeS) (p : Nat) (cur : List Nat) (a : Nat) : List Value := if a < 2 * n then vec n (s.ct a) else if a < 2 * n + p then vK (inL s (a - 2 * n)) else if a = 2 * n + p then vK cur else []
def inTo (s : MeS) (p x : Nat) : List Nat := (List.range x).filter (fun t => hasB s p t)
theorem inTo_len (s : MeS) (p x : Nat) : (inTo s p x).length ≤ x := by
  have := List.length_filter_le (fun t => hasB s p t) (List.range x)
  rwa [List.length_range] at this
theorem inTo_yes {s : MeS} {p x : Nat} (h : hasB s p x = true) : inTo s p (x + 1) = inTo s p x ++ [x] := by rw [inTo, List.range_succ, List.filter_append]; simp [inTo, h]
theorem inTo_no {s : MeS} {p x : Nat} (h : hasB s p x = false) : inTo s p (x + 1) = inTo s p x := by rw [inTo, List.range_succ, List.filter_append]; simp [inTo, h]
theorem qsP_cur {n : Nat} {s : MeS} {p : Nat} {cur cur' : List Nat} (a : Nat) : qput (qsP n s p cur) (2 * n + p) (vK cur') a = qsP n s p cur' a := by
  unfold qsP
  by_cases e : a = 2 * n + p
  · subst e; rw [qput_same, if_neg (by omega), if_neg (by omega), if_pos rfl]
  · rw [qput_ne e, if_neg e, if_neg e]
theorem qsP_at {n : Nat} {s : MeS} {p : Nat} {cur : List Nat} : qsP n s p cur (2 * n + p) = vK cur := by unfold qsP; rw [if_neg (by omega), if_neg (by omega), if_pos rfl]
theorem qsP_next {n : Nat} {s : MeS} {p : Nat} (a : Nat) : qsP n s (p + 1) [] a = qsP n s p (inTo s p 9) a := by
  unfold qsP
  by_cases h1 : a < 2 * n
  · rw [if_pos h1, if_pos h1]
  · rw [if_neg h1, if_neg h1]
    by_cases h2 : a < 2 * n + p
    · rw [if_pos h2, if_pos (by omega)]
    · rw [if_neg h2]
      by_cases h3 : a = 2 * n + p
      · rw [if_pos h3, if_pos (by omega), show a - 2 * n = p by omega]; rfl
      · rw [if_neg h3, if_neg (by omega)]; split <;> rfl
theorem qsP_ct {n : Nat} {s : MeS} {p a : Nat} {cur : List Nat} (h : a < 2 * n) : qsP n s p cur a = vec n (s.ct a) := if_pos h
theorem qsP_zero {n : Nat} {s : MeS} (a : Nat) : qsP n s 0 [] a = qsE n n s a := by
  unfold qsP qsE
  by_cases h1 : a < 2 * n
  · rw [if_pos h1, if_pos h1]
  · rw [if_neg h1, if_neg h1, if_neg (by omega)]; split <;> rfl
section
variable {w0 w : World} {L : List LRow} {Q : List MRow} {f : Nat → Value} {q : Nat → List Value}
theorem q_ct {a n : Nat} {c : Nat → Nat} (h : LayQ w0 w L Q tyE f q) (hq : q a = vec n c) (hn : 1 ≤ n) : ∃ b off cap, f a = .slice (some ⟨b, off, none⟩) n cap ∧ n ≤ cap ∧ cap ≤ maxLen ∧ ∀ o, o < n → w.cell? ⟨b, off + o, none⟩ = some (.int .i64 (c o : Nat)) := by
  obtain ⟨A, cap, hf, h1, h2⟩ := h.len a
  rw [hq, vec_len] at hf h1
  have ho := h.own a
  rw [hf, hq] at ho
  obtain ⟨b, off, rfl, -, -⟩ := ho.cell (vec_at c (show 0 < n by omega))
  refine ⟨b, off, cap, hf, h1, h2, fun o hoo => ?_⟩
  obtain ⟨b', off', e, -, hc⟩ := ho.cell (vec_at c hoo)
  injection e with e
  injection e with e1 e2
  subst e1; subst e2
  exact hc
/-- A slice that holds nothing is nil from now on. -/
theorem LayQ.clear (h : LayQ w0 w L Q tyE f q) (a : Nat) : LayQ w0 w L Q tyE (fput f a (.slice none 0 0)) (qput q a []) :=
  LayQ.place h a (QSl.nil _ _ _) (fun c _ => by
    cases hf : (f c).ownBlock with
    | none => exact .inl rfl
    | some g => exact .inr (by show some g ≠ none; simp)) (fun k r _ => .inl rfl)
end
abbrev repB (x : Nat) (bm : Nat → Nat) (f : Nat → Value) (p : Nat) : LRow := blk x 49 4 (ofL [.map (some (bm (2 * p))), .map (some (bm (2 * p + 1))), f (2 * p), f (2 * p + 1)])
abbrev rowsR (g cl n ga : Nat) (bm : Nat → Nat) (f0 : Nat → Value) (s : MeS) (p : Nat) (AI AN : Option Addr) (cI cN : Nat) (gI : Nat → Value) (R : List LRow) : List LRow :=
  blk g 46 2 (ofL [.slice (some ⟨ga, 0, none⟩) n cl, .int .i64 (s.tags : Nat)]) :: ⟨some ⟨ga, 0, none⟩, 49, 4, n, cl, repF bm f0⟩ :: ⟨AI, 26, 1, p, cI, gI⟩ :: ⟨AN, 3, 1, p, cN, fun a => .int .i64 (cntI s a n)⟩ :: R
theorem qsl_rd {w : World} {base : Nat} {e : TypeId} {A : Option Addr} {n cap : Nat} {l : List Nat} (h : QSl w base e (.slice A n cap) (vK l)) : Rd w w.heap.size A l.length (fun j => .int .i64 ((l.getD j 0 : Nat) : Int)) := by
  intro hp
  have at_ : ∀ j, j < l.length → (vK l)[j]? = some (.int .i64 ((l.getD j 0 : Nat) : Int)) := fun j hj => by
    unfold vK
    rw [List.getElem?_map, List.getElem?_eq_getElem hj, List.getD_eq_getElem?_getD, List.getElem?_eq_getElem hj]; rfl
  obtain ⟨g, off, rfl, -, -⟩ := h.cell (at_ 0 hp)
  refine ⟨_, rfl, (h.has (g := g) rfl).2.1, fun j hj => ?_⟩
  obtain ⟨g', off', e1, -, hc⟩ := h.cell (at_ j hj)
  injection e1 with e1
  injection e1 with e2 e3
  subst e2; subst e3
  have : (⟨g, off, none⟩ : Addr).add j = ⟨g, off + j, none⟩ := by unfold Addr.add; split <;> simp_all
  rw [this]; exact hc
/-- Play's answer. -/
def MRes (n m : Nat) (M : Mv) (v : Value) (w : World) : Prop :=
  ∃ (AC AI AN : Option Addr) (cC cI cN : Nat) (gI : Nat → Value), v = .tuple #[.agg #[.slice AC m cC, .slice AI n cI, .slice AN n cN], .int .i64 0] ∧ Rd w w.heap.size AC m (fun j => .int .i64 (meCode n M j)) ∧ Rd w w.heap.size AI n gI ∧
    Rd w w.heap.size AN n (fun a => .int .i64 (cntI (meSt n M m) a n)) ∧ ∀ a, a < n → ∃ A cap, gI a = .slice A (inL (meSt n M m) a).length cap ∧ Rd w w.heap.size A (inL (meSt n M m) a).length (fun j => .int .i64 (((inL (meSt n M m) a).getD j 0 : Nat) : Int))
end Go.Proofs.Ytdgegbdkimdpjaa
