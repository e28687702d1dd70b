/- merge's layout; the walk of 'join'. -/
import Derived.Test.YtdgegbdkimdpjaaMe1
import Derived.Test.YtdgegbdkimdpjaaSeq
set_option linter.unusedVariables false
set_option linter.unusedSimpArgs false
namespace Go.Proofs.Ytdgegbdkimdpjaa
open Go.RowKit Go.Maps Go.MapKept

def vK (l : List Nat) : List Value := l.map fun x : Nat => Value.int .i64 (x : Nat)
/-- The first n of a vector. -/
def vec (n : Nat) (c : Nat → Nat) : List Value := vK ((List.range n).map c)
theorem vec_len (n : Nat) (c : Nat → Nat) : (vec n c).length = n := by unfold vec vK; simp
theorem vec_at {n j : Nat} (c : Nat → Nat) (h : j < n) : (vec n c)[j]? = some (.int .i64 (c j : Nat)) := by
  unfold vec vK
  rw [List.getElem?_map, List.getElem?_map, List.getElem?_range h]; rfl
theorem vec_ext {n : Nat} {c c' : Nat → Nat} (h : ∀ j, j < n → c j = c' j) : vec n c = vec n c' := by
  unfold vec vK
  congr 1
  exact List.map_congr_left fun j hj => h j (List.mem_range.1 hj)
theorem vec_set {n j : Nat} (c : Nat → Nat) (x : Nat) : (vec n c).set j (.int .i64 (x : Nat)) = vec n (upd c j x) := by
  apply List.ext_getElem?
  intro i
  by_cases hi : i < n
  · rw [vec_at _ hi, List.getElem?_set, vec_at _ hi, vec_len]
    by_cases e : j = i
    · subst e; rw [if_pos rfl, if_pos hi, upd_same]
    · rw [if_neg e, upd_ne _ _ (fun h => e h.symm)]
  · rw [List.getElem?_eq_none (by rw [List.length_set, vec_len]; omega), List.getElem?_eq_none (by rw [vec_len]; omega)]
theorem upd_self {β : Type} (f : Nat → β) (a : Nat) : upd f a (f a) = f := by
  funext b
  by_cases e : b = a
  · subst e; rw [upd_same]
  · rw [upd_ne _ _ e]
def repF (bm : Nat → Nat) (f : Nat → Value) (x : Nat) : Value := if x % 4 = 0 then .map (some (bm (2 * (x / 4)))) else if x % 4 = 1 then .map (some (bm (2 * (x / 4) + 1))) else if x % 4 = 2 then f (2 * (x / 4)) else f (2 * (x / 4) + 1)
abbrev rowsE (g cl m : Nat) (AL : Option Addr) (bm : Nat → Nat) (f : Nat → Value) (s : MeS) (R : List LRow) : List LRow :=
  blk g 46 2 (ofL [.slice AL m cl, .int .i64 (s.tags : Nat)]) :: ⟨AL, 49, 4, m, cl, repF bm f⟩ :: R
abbrev mapsE (m : Nat) (bm : Nat → Nat) (s : MeS) : List MRow := (List.range (2 * m)).map fun a => ⟨bm a, setE (s.st a)⟩
def qsE (n m : Nat) (s : MeS) (a : Nat) : List Value := if a < 2 * m then vec n (s.ct a) else []
def tyE : Nat → TypeId := fun _ => 3
abbrev LayE (g cl n m : Nat) (AL : Option Addr) (bm : Nat → Nat) (R : List LRow) (w0 : World) (f : Nat → Value) (s : MeS) (w : World) : Prop := LayQ w0 w (rowsE g cl m AL bm f s R) (mapsE m bm s) tyE f (qsE n m s)
theorem mapsE_at {m a : Nat} {bm : Nat → Nat} {s : MeS} (h : a < 2 * m) : (mapsE m bm s)[a]? = some ⟨bm a, setE (s.st a)⟩ := by
  show ((List.range (2 * m)).map _)[a]? = _
  rw [List.getElem?_map, List.getElem?_range h]; rfl
section
variable {g cl n m : Nat} {AL : Option Addr} {bm : Nat → Nat} {R : List LRow} {w0 w : World} {f : Nat → Value} {s : MeS}
theorem me_heads (h : LayE g cl n m AL bm R w0 f s w) : w.cell? ⟨g, 0, none⟩ = some (.slice AL m cl) ∧ w.cell? ⟨g, 1, none⟩ = some (.int .i64 (s.tags : Nat)) :=
  ⟨h.lay.cellB 0 rfl 0 (by omega), h.lay.cellB 0 rfl 1 (by omega)⟩
/-- A replica's cells. -/
theorem me_rep {ga i : Nat} (h : LayE g cl n m (some ⟨ga, 0, none⟩) bm R w0 f s w) (hi : i < m) :
    w.cell? ⟨ga, i * 4, none⟩ = some (.map (some (bm (2 * i)))) ∧ w.cell? ⟨ga, i * 4 + 1, none⟩ = some (.map (some (bm (2 * i + 1)))) ∧ w.cell? ⟨ga, i * 4 + 2, none⟩ = some (f (2 * i)) ∧ w.cell? ⟨ga, i * 4 + 3, none⟩ = some (f (2 * i + 1)) := by
  have key : ∀ j, j < m * 4 → w.cell? ⟨ga, j, none⟩ = some (repF bm f j) := fun j hj => h.lay.cell 1 rfl hj
  have e0 : i * 4 / 4 = i ∧ i * 4 % 4 = 0 := by omega
  have e1 : (i * 4 + 1) / 4 = i ∧ (i * 4 + 1) % 4 = 1 := by omega
  have e2 : (i * 4 + 2) / 4 = i ∧ (i * 4 + 2) % 4 = 2 := by omega
  have e3 : (i * 4 + 3) / 4 = i ∧ (i * 4 + 3) % 4 = 3 := by omega
  refine ⟨?_, ?_, ?_, ?_⟩
  · rw [key _ (by omega), repF, e0.1, e0.2, if_pos rfl]
  · rw [key _ (by omega), repF, e1.1, e1.2, if_neg (by omega), if_pos rfl]
  · rw [key _ (by omega), repF, e2.1, e2.2, if_neg (by omega), if_neg (by omega), if_pos rfl]
  · rw [key _ (by omega), repF, e3.1, e3.2, if_neg (by omega), if_neg (by omega), if_neg (by omega)]
/-- What counts: its cells. -/
theorem me_ct {a : Nat} (h : LayE g cl n m AL bm R w0 f s w) (ha : a < 2 * m) (hn : 1 ≤ n) : ∃ b off cap, f a = .slice (some ⟨b, off, none⟩) n cap ∧ n ≤ cap ∧ cap ≤ maxLen ∧ (∀ o, o < n → w.cell? ⟨b, off + o, none⟩ = some (.int .i64 (s.ct a o : Nat))) ∧ ∀ o, w.frozen? ⟨b, o, none⟩ = false := by
  obtain ⟨A, cap, hf, h1, h2⟩ := h.len a
  have hq : qsE n m s a = vec n (s.ct a) := if_pos ha
  rw [hq, vec_len] at hf h1
  have ho := h.own a
  rw [hf, hq] at ho
  obtain ⟨b, off, rfl, -, -⟩ := ho.cell (vec_at (s.ct a) (show 0 < n by omega))
  refine ⟨b, off, cap, hf, h1, h2, fun o hoo => ?_, fun o => ho.frz o⟩
  obtain ⟨b', off', e, -, hc⟩ := ho.cell (vec_at (s.ct a) hoo)
  injection e with e
  injection e with e1 e2
  subst e1; subst e2
  exact hc
theorem qsE_ct {a o x : Nat} (ha : a < 2 * m) (b : Nat) : qput (qsE n m s) a ((qsE n m s a).set o (.int .i64 (x : Nat))) b = qsE n m { s with ct := upd s.ct a (upd (s.ct a) o x) } b := by
  by_cases e : b = a
  · subst e
    rw [qput_same]
    show (if b < 2 * m then vec n (s.ct b) else []).set o _ = if b < 2 * m then vec n (upd s.ct b (upd (s.ct b) o x) b) else []
    rw [if_pos ha, if_pos ha, upd_same, vec_set]
  · rw [qput_ne e]
    show _ = if b < 2 * m then vec n (upd s.ct a _ b) else []
    rw [upd_ne _ _ e]; rfl
theorem me_tick {a o x b off cap : Nat} (h : LayE g cl n m AL bm R w0 f s w) (ha : a < 2 * m) (hf : f a = .slice (some ⟨b, off, none⟩) n cap) (ho : o < n) :
    LayE g cl n m AL bm R w0 f { s with ct := upd s.ct a (upd (s.ct a) o x) } (w.setCell ⟨b, off + o, none⟩ (.int .i64 (x : Nat))) := by
  have hl : (qsE n m s a).length = n := by
    show (if a < 2 * m then vec n (s.ct a) else []).length = n
    rw [if_pos ha, vec_len]
  exact (LayQ.poke h a (.int .i64 (x : Nat)) hf (by rw [hl]; exact ho)).sameQ fun b => (qsE_ct ha b).symm
/-- A map's entries are put. -/
theorem me_put {a : Nat} (h : LayE g cl n m AL bm R w0 f s w) (ha : a < 2 * m) (c : Tag → Bool) (es : Array MapEntry) (k : Nat) (hs : setE c es k) : LayE g cl n m AL bm R w0 f { s with st := upd s.st a c } (ChangeMaps.setBlock w (bm a) (.map es k)) := by
  have h5 := LayQ.setM h a (mapsE_at ha) es k (setE c) hs
  have hq : (mapsE m bm s).set a ⟨bm a, setE c⟩ = mapsE m bm { s with st := upd s.st a c } := by
    apply List.ext_getElem?
    intro j
    by_cases hj : j < 2 * m
    · rw [mapsE_at hj, List.getElem?_set]
      by_cases e : a = j
      · subst e
        rw [if_pos rfl, if_pos (by simpa using ha)]
        show _ = some (⟨bm a, setE (upd s.st a c a)⟩ : MRow)
        rw [upd_same]
      · rw [if_neg e, mapsE_at hj]
        show _ = some (⟨bm j, setE (upd s.st a c j)⟩ : MRow)
        rw [upd_ne _ _ (fun h => e h.symm)]
    · rw [List.getElem?_eq_none (by simp; omega), List.getElem?_eq_none (by simp; omega)]
  rw [hq] at h5
  exact h5
theorem me_apart {a b : Nat} (h : LayE g cl n m AL bm R w0 f s w) (ha : a < 2 * m) (hb : b < 2 * m) (hab : a ≠ b) : bm a ≠ bm b := h.lm.ap a b _ _ hab (mapsE_at ha) (mapsE_at hb)
theorem me_look {a : Nat} (h : LayE g cl n m AL bm R w0 f s w) (ha : a < 2 * m) : ∃ es c, w.heap[bm a]? = some (.map es c) ∧ setE (s.st a) es c := h.mp a (mapsE_at ha)
theorem me_ext {s' : MeS} (h : LayE g cl n m AL bm R w0 f s w) (ht : s'.tags = s.tags) (hs : s'.st = s.st) (hc : ∀ a o, o < n → s'.ct a o = s.ct a o) : LayE g cl n m AL bm R w0 f s' w := by
  have h2 := h.sameQ (q' := qsE n m s') fun a => by
    show (if a < 2 * m then vec n (s'.ct a) else []) = if a < 2 * m then vec n (s.ct a) else []
    rw [vec_ext fun j hj => hc a j hj]
  obtain ⟨st, ct, tags⟩ := s
  obtain ⟨st', ct', tags'⟩ := s'
  subst ht; subst hs
  exact h2
/-- What has been seen, put in. -/
theorem me_union {a b r c : Nat} {es : Array MapEntry} {seen : Array Nat} {cur : Tag → Bool} {p : Tag} (h : LayE g cl n m AL bm R w0 f { s with st := upd s.st a cur } w) (hr : Rng w (bm b) r es c seen) (ha : a < 2 * m) (hb : b < 2 * m) (hp1 : p.1 < 1000) (hp2 : p.2 < 1000)
    (hpc : a = b → cur p = true) :
    ∃ es' c', (Instr.mapUpdate 47 (.map (some (bm a))) (.agg #[.int .i64 (p.1 : Nat), .int .i64 (p.2 : Nat)]) (.bool true)).run Try.prog w = .ok () (ChangeMaps.setBlock w (bm a) (.map es' c')) ∧
      LayE g cl n m AL bm R w0 f { s with st := upd s.st a (fun q => cur q || decide (q = p)) } (ChangeMaps.setBlock w (bm a) (.map es' c')) ∧ Rng (ChangeMaps.setBlock w (bm a) (.map es' c')) (bm b) r es c seen := by
  obtain ⟨es2, c2, hb2, hs2⟩ := me_look h ha
  have hs2 : setE cur es2 c2 := by
    have : upd s.st a cur a = cur := upd_same _ _ _
    rw [← this]; exact hs2
  have put : ∀ es' c', setE (fun q => cur q || decide (q = p)) es' c' → LayE g cl n m AL bm R w0 f { s with st := upd s.st a (fun q => cur q || decide (q = p)) } (ChangeMaps.setBlock w (bm a) (.map es' c')) := fun es' c' hs => by
    have := me_put h ha _ es' c' hs
    simp only [upd_upd] at this
    exact this
  by_cases hab : a = b
  · subst hab
    have e1 := hr.mp
    rw [hb2] at e1
    have hcc : (fun q => cur q || decide (q = p)) = cur := funext fun q => by
      by_cases e : q = p
      · subst e; simp [hpc rfl]
      · simp [e]
    refine ⟨es2, c2, setE_again hs2 hb2 p hp1 hp2 (hpc rfl), put _ _ (by rw [hcc]; exact hs2), ?_⟩
    injection e1 with e1
    injection e1 with e2 e3
    subst e2; subst e3
    refine ⟨?_, ?_⟩
    · show (w.heap.setIfInBounds _ _)[bm a]? = _
      rw [Array.getElem?_setIfInBounds_self_of_lt (Array.getElem?_eq_some_iff.1 hb2).1]
    · show ∃ c0, (w.heap.setIfInBounds _ _)[r]? = _ ∧ _
      rw [Array.getElem?_setIfInBounds_ne (Ne.symm hr.ne)]
      exact hr.it
  · obtain ⟨es', c', h1, h2⟩ := setE_put hs2 hb2 p hp1 hp2
    exact ⟨es', c', h1, put _ _ h2, Rng.put hr hb2 (me_apart h ha hb hab) _⟩
end
end Go.Proofs.Ytdgegbdkimdpjaa
