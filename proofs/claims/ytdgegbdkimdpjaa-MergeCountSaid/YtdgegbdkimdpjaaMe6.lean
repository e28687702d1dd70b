/- The walk of merge.Play: the copies are made. -/
import Derived.Test.YtdgegbdkimdpjaaMe5
import Derived.Test.YtdgegbdkimdpjaaNewY
import Derived.Test.YtdgegbdkimdpjaaLaK
import Derived.Test.YtdgegbdkimdpjaaMvApp
set_option linter.unusedVariables false
set_option linter.unusedSimpArgs false
namespace Go.Proofs.Ytdgegbdkimdpjaa
open Go.RowKit Go.Maps Go.MapKept

section
variable {α : Type} {w0 w w' : World} {L : List LRow} {Q Q' : List MRow} {e : α → TypeId} {f : α → Value} {q : α → List Value}
theorem LayM.reM (h : LayM w0 w L Q) (p : Nat → Nat) (hp : ∀ i j, p i = p j → i = j) (hQ : ∀ i x, Q'[i]? = some x → Q[p i]? = some x) : LayM w0 w L Q' :=
  ⟨h.lay, fun i x hi => h.map (p i) x (hQ i x hi), fun i j x y hij hi hj => h.ap (p i) (p j) x y (fun e => hij (hp i j e)) (hQ i x hi) (hQ j y hj)⟩
theorem LayQ.oldM (h : LayQ w0 w L Q e f q) (φ : Array MapEntry → Nat → Prop) (hφ : φ #[] 0) (b : Nat) (hb0 : w0.heap.size ≤ b) (hb : w.heap[b]? = some (.map #[] 0)) (hn : ∀ (i : Nat) (m : MRow), Q[i]? = some m → m.b ≠ b) : LayQ w0 w L (Q ++ [⟨b, φ⟩]) e f q := by
  have h2 := h.lm.oldM φ hφ b hb0 hb hn
  refine ⟨h2.reM (fun i => if i = Q.length then 0 else i + 1) (fun i j hij => ?_) fun i x hi => ?_, h.own, h.ap, h.row⟩
  · have hij : (if i = Q.length then 0 else i + 1) = if j = Q.length then 0 else j + 1 := hij
    split at hij <;> split at hij <;> omega
  show (⟨b, φ⟩ :: Q : List MRow)[if i = Q.length then 0 else i + 1]? = some x
  by_cases e1 : i = Q.length
  · rw [if_pos e1]
    rw [e1, List.getElem?_append_right (Nat.le_refl _)] at hi
    simpa using hi
  · rw [if_neg e1]
    by_cases e2 : i < Q.length
    · rw [List.getElem?_cons_succ]
      rw [List.getElem?_append_left e2] at hi
      exact hi
    · rw [List.getElem?_eq_none (by simp; omega)] at hi
      cases hi
/-- A slice takes the place of an empty one. -/
theorem LayQ.place [DecidableEq α] (h : LayQ w0 w L Q e f q) (a : α) {v' : Value} {xs' : List Value} (ho : QSl w w0.heap.size (e a) v' xs') (hf : ∀ c, c ≠ a → (f c).ownBlock = none ∨ (f c).ownBlock ≠ v'.ownBlock) (hr : ∀ (k : Nat) (r : LRow), L[k]? = some r → v'.ownBlock = none ∨ v'.ownBlock ≠ ablock r.a) :
    LayQ w0 w L Q e (fput f a v') (qput q a xs') := by
  refine ⟨h.lm, fun c => ?_, fun c d hcd => ?_, fun c k r hk => ?_⟩
  · by_cases e1 : c = a
    · subst e1; rw [fput_same, qput_same]; exact ho
    · rw [fput_ne e1, qput_ne e1]; exact h.own c
  · by_cases e1 : c = a
    · subst e1
      rw [fput_same, fput_ne (fun e2 => hcd e2.symm)]
      rcases hf d (fun e2 => hcd e2.symm) with h1 | h1
      · cases hv : v'.ownBlock with
        | none => exact .inl rfl
        | some g => exact .inr (by rw [h1]; simp)
      · exact .inr (Ne.symm h1)
    · rw [fput_ne e1]
      by_cases e2 : d = a
      · subst e2; rw [fput_same]; exact hf c e1
      · rw [fput_ne e2]; exact h.ap c d hcd
  · by_cases e1 : c = a
    · subst e1; rw [fput_same]; exact hr k r hk
    · rw [fput_ne e1]; exact h.row c k r hk
end
theorem range_next (i : Nat) : List.range (2 * (i + 1)) = List.range (2 * i) ++ [2 * i] ++ [2 * i + 1] := by
  rw [show 2 * (i + 1) = 2 * i + 1 + 1 by omega, List.range_succ, List.range_succ]
/-- One more copy: its blocks are new. -/
theorem me_grow {g cl n i : Nat} {AL : Option Addr} {bm : Nat → Nat} {R : List LRow} {w0 w w2 : World} {f : Nat → Value} (hn : n ≤ 6) (h : LayE g cl n i AL bm R w0 f MeS0 w) (hb : Below w.heap.size w w2) {b1 b2 u1 u2 : Nat}
    (l1 : w.heap.size ≤ b1) (l2 : w.heap.size ≤ b2) (l3 : w.heap.size ≤ u1) (l4 : w.heap.size ≤ u2) (hb12 : b1 ≠ b2) (hu12 : u1 ≠ u2) (o1 : w2.heap[b1]? = some (.map #[] 0)) (o2 : w2.heap[b2]? = some (.map #[] 0))
    (o3 : w2.heap[u1]? = some (.cells (madeCells #[.int .i64 0] n) 3 (0, 0))) (o4 : w2.heap[u2]? = some (.cells (madeCells #[.int .i64 0] n) 3 (0, 0))) :
    LayQ w0 w2 (rowsE g cl i AL (upd (upd bm (2 * i) b1) (2 * i + 1) b2) (fput (fput f (2 * i) (.slice (some ⟨u1, 0, none⟩) n n)) (2 * i + 1) (.slice (some ⟨u2, 0, none⟩) n n)) MeS0 R)
      (mapsE (i + 1) (upd (upd bm (2 * i) b1) (2 * i + 1) b2) MeS0) tyE (fput (fput f (2 * i) (.slice (some ⟨u1, 0, none⟩) n n)) (2 * i + 1) (.slice (some ⟨u2, 0, none⟩) n n)) (qsE n (i + 1) MeS0) := by
  have hsz := h.size
  have own : ∀ u, w.heap.size ≤ u → w2.heap[u]? = some (.cells (madeCells #[.int .i64 0] n) 3 (0, 0)) → Own w2 w0.heap.size 3 1 (some ⟨u, 0, none⟩) n n (fun _ => .int .i64 0) := fun u hu ho => by
    have hm := made_cells (.int .i64 0) n rfl
    exact .inr ⟨u, madeCells #[.int .i64 0] n, rfl, by omega, ho, Nat.le_refl _, by unfold maxLen; omega, by rw [Nat.mul_one]; exact hm.1, fun j hj => hm.2 j (by omega)⟩
  have H1 := LayQ.fresh h (2 * i) (v' := .slice (some ⟨u1, 0, none⟩) n n) (xs' := vec n (fun _ => 0)) hb (own_qsl (own u1 l3 o3) (vec_len _ _) (fun j hj => vec_at _ hj)) (fun g hg => by
    have e : u1 = g := Option.some.inj hg
    omega)
  have H2 := LayQ.place H1 (2 * i + 1) (v' := .slice (some ⟨u2, 0, none⟩) n n) (xs' := vec n (fun _ => 0)) (own_qsl (own u2 l4 o4) (vec_len _ _) (fun j hj => vec_at _ hj)) (fun c hc => by
    by_cases e1 : c = 2 * i
    · subst e1
      rw [fput_same]
      exact .inr (fun e => hu12 (Option.some.inj e))
    · rw [fput_ne e1]
      cases hf : (f c).ownBlock with
      | none => exact .inl rfl
      | some x =>
        refine .inr fun e => ?_
        have := ((h.own c).has hf).2.1
        have e2 : x = u2 := Option.some.inj e
        omega) (fun k r hk => by
    refine .inr fun e => ?_
    have := (h.lay.lt hk u2 e.symm).2
    omega)
  have hmap : ∀ (j : Nat) (m : MRow), (mapsE i bm MeS0)[j]? = some m → m.b < w.heap.size := fun j m hm => by
    obtain ⟨es, c, hx, _⟩ := h.mp j hm
    exact (Array.getElem?_eq_some_iff.1 hx).1
  have H3 := H2.oldM (setE (fun _ => false)) setE_empty b1 (by omega) o1 (fun j m hm e => by have := hmap j m hm; omega)
  have H4 := H3.oldM (setE (fun _ => false)) setE_empty b2 (by omega) o2 (fun j m hm e => by
    by_cases hj : j < (mapsE i bm MeS0).length
    · rw [List.getElem?_append_left hj] at hm
      have := hmap j m hm
      omega
    · rw [List.getElem?_append_right (by omega)] at hm
      rcases Nat.eq_zero_or_pos (j - (mapsE i bm MeS0).length) with h0 | h0
      · rw [h0] at hm
        have hm : m = ⟨b1, setE (fun _ => false)⟩ := by simpa using hm.symm
        rw [hm] at e
        exact hb12 e
      · rw [List.getElem?_eq_none (show ([⟨b1, setE (fun _ => false)⟩] : List MRow).length ≤ j - (mapsE i bm MeS0).length from h0)] at hm; cases hm)
  have hQ : mapsE i bm MeS0 ++ [⟨b1, setE (fun _ => false)⟩] ++ [⟨b2, setE (fun _ => false)⟩] = mapsE (i + 1) (upd (upd bm (2 * i) b1) (2 * i + 1) b2) MeS0 := by
    show _ = (List.range (2 * (i + 1))).map _
    rw [range_next, List.map_append, List.map_append]
    congr 1
    · congr 1
      · exact List.map_congr_left fun j hj => by
          have := List.mem_range.1 hj
          rw [upd_ne _ _ (by omega), upd_ne _ _ (by omega)]
      · show _ = [(⟨upd (upd bm (2 * i) b1) (2 * i + 1) b2 (2 * i), _⟩ : MRow)]
        rw [upd_ne _ _ (by omega), upd_same]; rfl
    · show _ = [(⟨upd (upd bm (2 * i) b1) (2 * i + 1) b2 (2 * i + 1), _⟩ : MRow)]
      rw [upd_same]; rfl
  rw [hQ] at H4
  have H5 := H4.congr 1 (repF (upd (upd bm (2 * i) b1) (2 * i + 1) b2) (fput (fput f (2 * i) (.slice (some ⟨u1, 0, none⟩) n n)) (2 * i + 1) (.slice (some ⟨u2, 0, none⟩) n n))) rfl (fun j hj => by
    have hj : j < i * 4 := hj
    have h4 : j / 4 < i := by omega
    show repF bm f j = repF _ _ j
    unfold repF
    rw [upd_ne _ _ (show 2 * (j / 4) ≠ 2 * i + 1 by omega), upd_ne _ _ (show 2 * (j / 4) ≠ 2 * i by omega), upd_ne _ _ (show 2 * (j / 4) + 1 ≠ 2 * i + 1 by omega), upd_ne _ _ (show 2 * (j / 4) + 1 ≠ 2 * i by omega),
      fput_ne (show 2 * (j / 4) ≠ 2 * i + 1 by omega), fput_ne (show 2 * (j / 4) ≠ 2 * i by omega), fput_ne (show 2 * (j / 4) + 1 ≠ 2 * i + 1 by omega), fput_ne (show 2 * (j / 4) + 1 ≠ 2 * i by omega)])
  refine LayQ.sameQ H5 fun a => ?_
  show (if a < 2 * (i + 1) then vec n (MeS0.ct a) else []) = qput (qput (qsE n i MeS0) (2 * i) (vec n (fun _ => 0))) (2 * i + 1) (vec n (fun _ => 0)) a
  by_cases e1 : a = 2 * i + 1
  · subst e1; rw [qput_same, if_pos (by omega)]; rfl
  · rw [qput_ne e1]
    by_cases e2 : a = 2 * i
    · subst e2; rw [qput_same, if_pos (by omega)]; rfl
    · rw [qput_ne e2]
      show _ = if a < 2 * i then vec n (MeS0.ct a) else []
      by_cases e3 : a < 2 * i
      · rw [if_pos e3, if_pos (by omega)]
      · rw [if_neg e3, if_neg (by omega)]
/-- What the region that makes a copy yields. -/
def newM (g n i cl : Nat) (AL : Option Addr) (k : Nat) (y : Nat → Value) (γ : Nat) (w : World) : Prop := match k with
  | 0 => y 0 = .pointer (some ⟨g, 0, none⟩)
  | 1 => y 1 = .pointer (some ⟨g, 0, none⟩)
  | 2 => y 2 = .pointer (some ⟨g, 0, none⟩)
  | 3 => y 3 = .pointer (some ⟨g, 0, none⟩)
  | 4 => y 4 = .slice AL i cl
  | 5 => y 5 = .map (some γ) ∧ w.heap[γ]? = some (.map #[] 0)
  | 6 => y 6 = .map (some γ) ∧ w.heap[γ]? = some (.map #[] 0)
  | 7 => y 7 = .int .i64 n
  | 8 => y 8 = .slice (some ⟨γ, 0, none⟩) n n ∧ w.heap[γ]? = some (.cells (madeCells #[.int .i64 0] n) 3 (0, 0))
  | 9 => y 9 = .int .i64 n
  | 10 => y 10 = .slice (some ⟨γ, 0, none⟩) n n ∧ w.heap[γ]? = some (.cells (madeCells #[.int .i64 0] n) 3 (0, 0))
  | 11 => ∃ b1 b2 u1 u2, y 11 = .agg #[.map (some b1), .map (some b2), .slice (some ⟨u1, 0, none⟩) n n, .slice (some ⟨u2, 0, none⟩) n n] ∧ y 5 = .map (some b1) ∧ y 6 = .map (some b2) ∧ y 8 = .slice (some ⟨u1, 0, none⟩) n n ∧ y 10 = .slice (some ⟨u2, 0, none⟩) n n
  | 12 => y 12 = .slice (some ⟨γ, 0, none⟩) 1 1 ∧ ∃ b1 b2 u1 u2, y 11 = .agg #[.map (some b1), .map (some b2), .slice (some ⟨u1, 0, none⟩) n n, .slice (some ⟨u2, 0, none⟩) n n] ∧ w.heap[γ]? = some (.cells #[.map (some b1), .map (some b2), .slice (some ⟨u1, 0, none⟩) n n, .slice (some ⟨u2, 0, none⟩) n n] 49 (0, 0))
  | _ => False
def newMB (i : Nat) : Bool := i == 5 || i == 6 || i == 8 || i == 10 || i == 12
theorem keep_block {w1 w2 : World} {γ : Nat} {ob : Obj} (h : w1.heap[γ]? = some ob) (hb : Below w1.heap.size w1 w2) : w2.heap[γ]? = some ob := (hb.block γ (Array.getElem?_eq_some_iff.1 h).1).trans h
theorem newM_keep (g n i cl : Nat) (AL : Option Addr) (k : Nat) (y : Nat → Value) (γ : Nat) (w1 w2 : World) (h : newM g n i cl AL k y γ w1) (hb : Below w1.heap.size w1 w2) : newM g n i cl AL k y γ w2 := by
  rcases k with _ | _ | _ | _ | _ | _ | _ | _ | _ | _ | _ | _ | _ | k
  · exact h
  · exact h
  · exact h
  · exact h
  · exact h
  · exact ⟨h.1, keep_block h.2 hb⟩
  · exact ⟨h.1, keep_block h.2 hb⟩
  · exact h
  · exact ⟨h.1, keep_block h.2 hb⟩
  · exact h
  · exact ⟨h.1, keep_block h.2 hb⟩
  · exact h
  · obtain ⟨h1, c0, c1, c2, c3, h2, h3⟩ := h
    exact ⟨h1, c0, c1, c2, c3, h2, keep_block h3 hb⟩
  · exact h
theorem does_at {P : Program} {o : Oper} {a : Act} {w : World} {F : Nat → (Nat → Value) → Nat → World → Prop} {nw : Nat → Bool} {i : Nat} {y : Nat → Value} (v : Value) (h : (execOp a.eval o).run P w = .ok (.value v) w) (hF : F i (yset y i v) 0 w) (hn : nw i = false) :
    Does P o a w fun u w2 => Below w.heap.size w w2 ∧ ∃ g, F i (yset y i u) g w2 ∧ (nw i = true → w.heap.size ≤ g ∧ g < w2.heap.size) :=
  does_run h ⟨Below.refl _ _, 0, hF, fun h => by rw [hn] at h; cases h⟩
theorem does_made {P : Program} {o : Oper} {a : Act} {w : World} {F : Nat → (Nat → Value) → Nat → World → Prop} {nw : Nat → Bool} {i : Nat} {y : Nat → Value} (v : Value) (ob : Obj) (h : (execOp a.eval o).run P w = .ok (.value v) (w.alloc ob)) (hF : F i (yset y i v) w.heap.size (w.alloc ob)) :
    Does P o a w fun u w2 => Below w.heap.size w w2 ∧ ∃ g, F i (yset y i u) g w2 ∧ (nw i = true → w.heap.size ≤ g ∧ g < w2.heap.size) :=
  does_run h ⟨(Below.refl _ _).alloc (Nat.le_refl _) _, _, hF, fun _ => ⟨Nat.le_refl _, by simp⟩⟩
end Go.Proofs.Ytdgegbdkimdpjaa
