/- snap's state and its laws, without a program. -/
import Derived.Test.YtfcgjmekeonemaaWayQ
set_option linter.unusedVariables false
set_option linter.unusedSimpArgs false
namespace Go.Proofs.Ytfcgjmekeonemaa

structure SN where
  have_ : Nat → Int
  way : Nat × Nat → List Int
  rec_ : Nat → Bool
  closed : Nat × Nat → Bool
  kept : Nat → Int
  wayR : Nat × Nat → Int
def SN0 : SN := ⟨fun _ => 100, fun _ => [], fun _ => false, fun _ => false, fun _ => 0, fun _ => 0⟩
/-- Marks are sent from i to the first j. -/
def marks (i j : Nat) (q : Nat × Nat → List Int) : Nat × Nat → List Int := fun p => if p.1 = i ∧ p.2 ≠ i ∧ p.2 < j then q p ++ [0] else q p
def recS (n i : Nat) (s : SN) : SN := if s.rec_ i then s else { s with rec_ := upd s.rec_ i true, kept := upd s.kept i (s.have_ i), way := marks i n s.way }
def takeT (n f t : Nat) (x : Int) (l : List Int) (s : SN) : SN :=
  if x = 0 then { recS n t { s with way := qput s.way (f, t) l } with closed := qput s.closed (f, t) true }
  else { s with way := qput s.way (f, t) l, have_ := upd s.have_ t (s.have_ t + x), wayR := if s.rec_ t && !s.closed (f, t) then qput s.wayR (f, t) (s.wayR (f, t) + x) else s.wayR }
def takeN (n f t : Nat) (s : SN) : Int × SN := match s.way (f, t) with
  | [] => (5, s)
  | x :: l => (0, takeT n f t x l s)
def sendN (f t : Nat) (v : Int) (s : SN) : SN := { s with have_ := upd s.have_ f (s.have_ f - v), way := qput s.way (f, t) (s.way (f, t) ++ [v]) }
def snBad (n : Nat) (k f t : Int) : Bool := !(decide (0 ≤ f) && decide (f < n)) || (k != 3 && (!(decide (0 ≤ t) && decide (t < n)) || f == t))
def snStep (n : Nat) (k f t v : Int) (s : SN) : Int × SN :=
  if k < 1 ∨ 3 < k then (6, s)
  else if snBad n k f t then (2, s)
  else if k = 2 then takeN n f.toNat t.toNat s
  else if k = 3 then (if s.rec_ f.toNat then (7, s) else (0, recS n f.toNat s))
  else if v < 1 ∨ s.have_ f.toNat < v then (4, s)
  else (0, sendN f.toNat t.toNat v s)
def snE (n : Nat) (M : Mv) : Nat → SN
  | 0 => SN0
  | j + 1 => (snStep n (M.k j) (M.f j) (M.t j) (M.v j) (snE n M j)).2
def snC (n : Nat) (M : Mv) (j : Nat) : Int := (snStep n (M.k j) (M.f j) (M.t j) (M.v j) (snE n M j)).1

/-- Sums. -/
def sumS (f : Nat → Int) : Nat → Int
  | 0 => 0
  | n + 1 => sumS f n + f n
theorem sumS_congr {f g : Nat → Int} : ∀ {n : Nat}, (∀ i, i < n → f i = g i) → sumS f n = sumS g n
  | 0, _ => rfl
  | n + 1, h => by rw [sumS, sumS, sumS_congr fun i hi => h i (by omega), h n (by omega)]
theorem sumS_upd {f : Nat → Int} {k : Nat} {x : Int} : ∀ {n : Nat}, k < n → sumS (upd f k x) n = sumS f n + (x - f k)
  | 0, h => by omega
  | n + 1, h => by
    rw [sumS, sumS]
    by_cases e : k = n
    · subst e
      rw [upd_same, sumS_congr (g := f) fun i hi => upd_ne _ _ (by omega)]
      omega
    · rw [sumS_upd (by omega), upd_ne _ _ (fun e' => e e'.symm)]
      omega
theorem sumS_const (c : Int) : ∀ n : Nat, sumS (fun _ => c) n = n * c
  | 0 => by simp [sumS]
  | n + 1 => by
    rw [sumS, sumS_const c n]
    push_cast
    rw [Int.add_mul]; omega
theorem sumS_nn {f : Nat → Int} : ∀ {n : Nat}, (∀ i, i < n → 0 ≤ f i) → 0 ≤ sumS f n
  | 0, _ => Int.le_refl _
  | n + 1, h => by
    have := sumS_nn (n := n) fun i hi => h i (by omega)
    have := h n (by omega)
    rw [sumS]; omega
def sumP (f : Nat × Nat → Int) (n : Nat) : Int := sumS (fun i => sumS (fun j => f (i, j)) n) n
theorem sumP_congr {f g : Nat × Nat → Int} {n : Nat} (h : ∀ p : Nat × Nat, p.1 < n → p.2 < n → f p = g p) : sumP f n = sumP g n :=
  sumS_congr fun i hi => sumS_congr fun j hj => h (i, j) hi hj
theorem sumP_put {f : Nat × Nat → Int} {n : Nat} {p : Nat × Nat} {x : Int} (h1 : p.1 < n) (h2 : p.2 < n) : sumP (qput f p x) n = sumP f n + (x - f p) := by
  have e : sumP (qput f p x) n = sumS (upd (fun i => sumS (fun j => f (i, j)) n) p.1 (sumS (fun j => f (p.1, j)) n + (x - f p))) n := by
    refine sumS_congr fun i hi => ?_
    by_cases e : i = p.1
    · subst e
      rw [upd_same]
      have : sumS (fun j => qput f p x (p.1, j)) n = sumS (upd (fun j => f (p.1, j)) p.2 x) n := sumS_congr fun j hj => by
        unfold qput upd
        by_cases e : j = p.2
        · subst e; simp
        · rw [if_neg e, if_neg (fun e' => e (by rw [← e']))]
      rw [this, sumS_upd h2]
    · rw [upd_ne _ _ e]
      refine sumS_congr fun j hj => qput_ne fun e' => e (by rw [← e'])
  rw [e, sumS_upd h1]
  show sumP f n + (sumS (fun j => f (p.1, j)) n + (x - f p) - sumS (fun j => f (p.1, j)) n) = _
  omega
/-- What stands ahead of the first mark. -/
def pre : List Int → Int
  | [] => 0
  | x :: l => if x = 0 then 0 else x + pre l
def mks : List Int → Nat
  | [] => 0
  | x :: l => (if x = 0 then 1 else 0) + mks l
theorem pre_app {l : List Int} {x : Int} : pre (l ++ [x]) = if mks l = 0 then pre l + x else pre l := by
  induction l with
  | nil => simp only [List.nil_append, pre, mks, if_true]; split <;> omega
  | cons y l ih =>
    rw [List.cons_append, pre, ih, mks, pre]
    by_cases hy : y = 0
    · simp [hy]
    · simp only [hy, if_false, Nat.zero_add]
      split <;> omega
theorem mks_app (l : List Int) (x : Int) : mks (l ++ [x]) = mks l + if x = 0 then 1 else 0 := by
  induction l with
  | nil => simp [mks]
  | cons y l ih => rw [List.cons_append, mks, ih, mks]; omega
/-- What a way counts for. -/
def cntW (s : SN) (p : Nat × Nat) : Int := s.wayR p + if s.closed p then 0 else pre (s.way p)
def cntK (s : SN) (i : Nat) : Int := if s.rec_ i then s.kept i else s.have_ i
structure SJ (n : Nat) (s : SN) : Prop where
  have_ : ∀ i, 0 ≤ s.have_ i
  way : ∀ p x, x ∈ s.way p → 0 ≤ x
  kept : ∀ i, 0 ≤ s.kept i
  wayR : ∀ p, 0 ≤ s.wayR p
  own : ∀ i, s.wayR (i, i) = 0
  cl : ∀ p, s.closed p = true → p.1 < n ∧ p.2 < n ∧ p.1 ≠ p.2 ∧ s.rec_ p.1 = true ∧ s.rec_ p.2 = true
  mkn : ∀ p, mks (s.way p) = if s.rec_ p.1 = true ∧ p.2 ≠ p.1 ∧ p.2 < n ∧ s.closed p = false then 1 else 0
  un : ∀ p, s.rec_ p.2 = false → s.wayR p = 0
  rc : ∀ i, s.rec_ i = true → i < n
  all : sumS (cntK s) n + sumP (cntW s) n = n * 100
theorem SJ.start (n : Nat) : SJ n SN0 := by
  refine ⟨fun _ => by simp [SN0], fun p x h => by simp [SN0] at h, fun _ => by simp [SN0], fun _ => by simp [SN0], fun _ => rfl, fun p h => by simp [SN0] at h, fun p => by simp [SN0, mks], fun _ _ => rfl, fun i h => by simp [SN0] at h, ?_⟩
  have h1 : sumS (cntK SN0) n = n * 100 := by rw [← sumS_const]; rfl
  have h2 : sumP (cntW SN0) n = 0 := by
    unfold sumP
    rw [sumS_congr (g := fun _ => 0) fun i _ => by rw [sumS_congr (g := fun _ => 0) fun j _ => by simp [cntW, SN0, pre], sumS_const]; simp, sumS_const]
    simp
  omega
theorem marks_at (i n : Nat) (q : Nat × Nat → List Int) (p : Nat × Nat) : marks i n q p = if p.1 = i ∧ p.2 ≠ i ∧ p.2 < n then q p ++ [0] else q p := rfl
theorem SJ.record {n i : Nat} {s : SN} (h : SJ n s) (hi : i < n) : SJ n (recS n i s) ∧ (recS n i s).rec_ i = true := by
  unfold recS
  by_cases hr : s.rec_ i = true
  · rw [if_pos hr]; exact ⟨h, hr⟩
  rw [if_neg hr]
  have hr0 : s.rec_ i = false := by simpa using hr
  have hrec : ∀ j, upd s.rec_ i true j = true ↔ j = i ∨ s.rec_ j = true := by
    intro j
    rw [upd_apply]
    by_cases e : j = i <;> simp [e]
  refine ⟨⟨h.have_, fun p x hx => ?_, fun j => ?_, h.wayR, h.own, fun p hp => ?_, fun p => ?_, fun p hp => ?_, fun j hj => ?_, ?_⟩, by show upd s.rec_ i true i = true; rw [upd_same]⟩
  · replace hx : x ∈ marks i n s.way p := hx
    rw [marks_at] at hx
    split at hx
    · rcases List.mem_append.1 hx with hx | hx
      · exact h.way p x hx
      · simp at hx; omega
    · exact h.way p x hx
  · show 0 ≤ upd s.kept i _ j
    rw [upd_apply]; split
    · exact h.have_ i
    · exact h.kept j
  · obtain ⟨h1, h2, h3, h4, h5⟩ := h.cl p hp
    exact ⟨h1, h2, h3, (hrec _).2 (.inr h4), (hrec _).2 (.inr h5)⟩
  · show mks (marks i n s.way p) = if upd s.rec_ i true p.1 = true ∧ p.2 ≠ p.1 ∧ p.2 < n ∧ s.closed p = false then 1 else 0
    have hm := h.mkn p
    rw [marks_at]
    by_cases e : p.1 = i
    · have hcl : s.closed p = false := by
        cases hc : s.closed p
        · rfl
        · have := (h.cl p hc).2.2.2.1
          rw [e, hr0] at this; cases this
      have h0 : mks (s.way p) = 0 := by rw [hm, if_neg (by rw [e, hr0]; simp)]
      by_cases e2 : p.2 ≠ i ∧ p.2 < n
      · rw [if_pos ⟨e, e2⟩, mks_app, h0, if_pos (c := upd s.rec_ i true p.1 = true ∧ _) ⟨(hrec _).2 (.inl e), by rw [e]; exact e2.1, e2.2, hcl⟩]; rfl
      · rw [if_neg (fun hh => e2 hh.2), h0, if_neg]
        rintro ⟨_, h1, h2, _⟩
        exact e2 ⟨by rw [← e]; exact h1, h2⟩
    · rw [if_neg (fun hh => e hh.1), hm]
      simp only [upd_ne _ _ e]
  · replace hp : upd s.rec_ i true p.2 = false := hp
    refine h.un p ?_
    rw [upd_apply] at hp
    split at hp
    · cases hp
    · exact hp
  · rcases (hrec j).1 hj with rfl | hj
    · exact hi
    · exact h.rc j hj
  · rw [← h.all]
    congr 1
    · refine sumS_congr fun j hj => ?_
      show (if upd s.rec_ i true j = true then upd s.kept i (s.have_ i) j else s.have_ j) = if s.rec_ j = true then s.kept j else s.have_ j
      by_cases e : j = i
      · subst e
        rw [upd_same, upd_same, if_pos rfl, if_neg hr]
      · rw [upd_ne _ _ e, upd_ne _ _ e]
    · refine sumP_congr fun p _ _ => ?_
      show s.wayR p + (if s.closed p = true then 0 else pre (marks i n s.way p)) = s.wayR p + if s.closed p = true then 0 else pre (s.way p)
      rw [marks_at]
      split
      · rfl
      · rename_i hc
        by_cases e : p.1 = i ∧ p.2 ≠ i ∧ p.2 < n
        · rw [if_pos e, pre_app]
          split
          · omega
          · rfl
        · rw [if_neg e]
theorem qput_at {α : Type} [DecidableEq α] {β : Type} (q : α → β) (a b : α) (x : β) : qput q a x b = if b = a then x else q b := rfl
theorem SJ.send {n f t : Nat} {v : Int} {s : SN} (h : SJ n s) (hf : f < n) (ht : t < n) (hft : f ≠ t) (hv : 1 ≤ v) (hh : v ≤ s.have_ f) : SJ n (sendN f t v s) := by
  have hcl : s.closed (f, t) = true ∨ s.closed (f, t) = false := by cases s.closed (f, t) <;> simp
  refine ⟨fun i => ?_, fun p x hx => ?_, h.kept, h.wayR, h.own, h.cl, fun p => ?_, h.un, h.rc, ?_⟩
  · show 0 ≤ upd s.have_ f _ i
    rw [upd_apply]; split
    · omega
    · exact h.have_ i
  · replace hx : x ∈ qput s.way (f, t) (s.way (f, t) ++ [v]) p := hx
    rw [qput_at] at hx
    split at hx
    · rcases List.mem_append.1 hx with hx | hx
      · exact h.way _ x hx
      · simp at hx; omega
    · exact h.way p x hx
  · show mks (qput s.way (f, t) (s.way (f, t) ++ [v]) p) = _
    rw [qput_at]
    split
    · rename_i e
      subst e
      rw [mks_app, if_neg (by omega), Nat.add_zero]
      exact h.mkn _
    · exact h.mkn p
  · rw [← h.all]
    have e1 : sumS (cntK (sendN f t v s)) n = sumS (cntK s) n - if s.rec_ f = true then 0 else v := by
      by_cases hr : s.rec_ f = true
      · rw [if_pos hr, sumS_congr (g := cntK s)]
        · omega
        · intro i _
          show (if s.rec_ i = true then s.kept i else upd s.have_ f _ i) = if s.rec_ i = true then s.kept i else s.have_ i
          by_cases e : i = f
          · subst e; rw [if_pos hr, if_pos hr]
          · rw [upd_ne _ _ e]
      · rw [if_neg hr, sumS_congr (g := upd (cntK s) f (s.have_ f - v)), sumS_upd hf]
        · show _ + (s.have_ f - v - if s.rec_ f = true then s.kept f else s.have_ f) = _
          rw [if_neg hr]; omega
        · intro i _
          show (if s.rec_ i = true then s.kept i else upd s.have_ f _ i) = _
          by_cases e : i = f
          · subst e; rw [upd_same, upd_same, if_neg hr]
          · rw [upd_ne _ _ e, upd_ne _ _ e]; rfl
    have e2 : sumP (cntW (sendN f t v s)) n = sumP (cntW s) n + if s.rec_ f = true then 0 else v := by
      rw [sumP_congr (g := qput (cntW s) (f, t) (cntW s (f, t) + if s.rec_ f = true then 0 else v)), sumP_put hf ht]
      · omega
      · intro p _ _
        show s.wayR p + (if s.closed p = true then 0 else pre (qput s.way (f, t) (s.way (f, t) ++ [v]) p)) = _
        by_cases e : p = (f, t)
        · subst e
          rw [qput_same, qput_same]
          have hm := h.mkn (f, t)
          show _ = (s.wayR (f, t) + if s.closed (f, t) = true then 0 else pre (s.way (f, t))) + _
          rw [pre_app]
          rcases hcl with hc | hc
          · have := (h.cl _ hc).2.2.2.1
            rw [if_pos hc, if_pos hc, if_pos this]; omega
          · have hc2 : ¬ s.closed (f, t) = true := by rw [hc]; simp
            rw [if_neg hc2, if_neg hc2]
            by_cases hr : s.rec_ f = true
            · rw [if_pos (c := s.rec_ (f, t).1 = true ∧ _) ⟨hr, fun e => hft e.symm, ht, hc⟩] at hm
              rw [if_pos hr, if_neg (by omega)]; omega
            · rw [if_neg (c := s.rec_ (f, t).1 = true ∧ _) (fun e => hr e.1)] at hm
              rw [if_neg hr, if_pos hm]; omega
        · rw [qput_ne e, qput_ne e]; rfl
    rw [e1, e2]; omega
theorem SJ.take {n f t : Nat} {x : Int} {l : List Int} {s : SN} (h : SJ n s) (hf : f < n) (ht : t < n) (hft : f ≠ t) (hw : s.way (f, t) = x :: l) : SJ n (takeT n f t x l s) := by
  have hx0 : 0 ≤ x := h.way (f, t) x (by rw [hw]; exact List.mem_cons_self)
  have hm := h.mkn (f, t)
  rw [hw] at hm
  have hsub : ∀ p y, y ∈ qput s.way (f, t) l p → 0 ≤ y := by
    intro p y hy
    rw [qput_at] at hy
    split at hy
    · exact h.way (f, t) y (by rw [hw]; exact List.mem_cons_of_mem _ hy)
    · exact h.way p y hy
  unfold takeT
  by_cases hx : x = 0
  · rw [if_pos hx]
    subst hx
    simp only [mks, if_true] at hm
    have hc : s.rec_ f = true ∧ s.closed (f, t) = false := by
      by_cases hc : s.rec_ f = true ∧ t ≠ f ∧ t < n ∧ s.closed (f, t) = false
      · exact ⟨hc.1, hc.2.2.2⟩
      · rw [if_neg (c := s.rec_ (f, t).1 = true ∧ _) hc] at hm; omega
    rw [if_pos (c := s.rec_ (f, t).1 = true ∧ _) ⟨hc.1, fun e => hft e.symm, ht, hc.2⟩] at hm
    have hml : mks l = 0 := by omega
    -- the state ahead of 'record' does not stand under the invariant: the record is told for the state with the mark, then the mark is taken
    obtain ⟨hR, hRt⟩ := h.record (i := t) ht
    have hway : ∀ p, (recS n t { s with way := qput s.way (f, t) l }).way p = qput (recS n t s).way (f, t) l p := by
      intro p
      unfold recS
      by_cases hr : s.rec_ t = true
      · rw [if_pos hr, if_pos hr]
      · rw [if_neg hr, if_neg hr]
        show marks t n (qput s.way (f, t) l) p = qput (marks t n s.way) (f, t) l p
        rw [marks_at, qput_at, qput_at, marks_at]
        by_cases e : p = (f, t)
        · subst e
          rw [if_pos rfl, if_pos rfl, if_neg (fun e => hft e.1)]
        · rw [if_neg e, if_neg e]
    have hRw : (recS n t s).way (f, t) = 0 :: l := by
      rw [← hw]
      unfold recS
      split
      · rfl
      · show marks t n s.way (f, t) = _
        rw [marks_at, if_neg (fun e => hft e.1)]
    have hRc : (recS n t s).closed = s.closed := by unfold recS; split <;> rfl
    have hRf : (recS n t s).rec_ f = true := by
      unfold recS
      split
      · exact hc.1
      · show upd s.rec_ t true f = true
        rw [upd_ne _ _ hft]; exact hc.1
    have e1 : recS n t { s with way := qput s.way (f, t) l } = { recS n t s with way := qput (recS n t s).way (f, t) l } := by
      have hw2 := funext hway
      unfold recS at hw2 ⊢
      by_cases hr : s.rec_ t = true
      · rw [if_pos hr, if_pos hr]
      · rw [if_neg hr, if_neg hr] at hw2
        rw [if_neg hr, if_neg hr]
        simp only at hw2 ⊢
        rw [hw2]
    rw [e1]
    generalize recS n t s = r at *
    have hclo : ∀ p, qput r.closed (f, t) true p = true ↔ p = (f, t) ∨ r.closed p = true := by
      intro p; rw [qput_at]; by_cases e : p = (f, t) <;> simp [e]
    refine ⟨hR.have_, fun p y hy => ?_, hR.kept, hR.wayR, hR.own, fun p hp => ?_, fun p => ?_, hR.un, hR.rc, ?_⟩
    · replace hy : y ∈ qput r.way (f, t) l p := hy
      rw [qput_at] at hy
      split at hy
      · exact hR.way (f, t) y (by rw [hRw]; exact List.mem_cons_of_mem _ hy)
      · exact hR.way p y hy
    · replace hp : qput s.closed (f, t) true p = true := hp
      rw [← hRc] at hp
      rcases (hclo p).1 hp with rfl | hp
      · exact ⟨hf, ht, hft, hRf, hRt⟩
      · exact hR.cl p hp
    · show mks (qput r.way (f, t) l p) = if r.rec_ p.1 = true ∧ p.2 ≠ p.1 ∧ p.2 < n ∧ qput s.closed (f, t) true p = false then 1 else 0
      rw [← hRc, qput_at, qput_at]
      split
      · rename_i e
        subst e
        rw [hml, if_neg (by simp)]
      · exact hR.mkn p
    · rw [← hR.all]
      congr 1
      refine sumP_congr fun p _ _ => ?_
      show r.wayR p + (if qput s.closed (f, t) true p = true then 0 else pre (qput r.way (f, t) l p)) = r.wayR p + if r.closed p = true then 0 else pre (r.way p)
      rw [← hRc, qput_at, qput_at]
      by_cases e : p = (f, t)
      · subst e
        rw [if_pos rfl, if_pos rfl, if_neg (by rw [hRc, hc.2]; simp), hRw]
        rfl
      · rw [if_neg e, if_neg e]
  · rw [if_neg hx]
    have hmr : mks l = mks (s.way (f, t)) := by rw [hw, mks, if_neg hx, Nat.zero_add]
    refine ⟨fun i => ?_, hsub, h.kept, fun p => ?_, fun i => ?_, h.cl, fun p => ?_, fun p hp => ?_, h.rc, ?_⟩
    · show 0 ≤ upd s.have_ t _ i
      rw [upd_apply]; split
      · have := h.have_ t; omega
      · exact h.have_ i
    · show 0 ≤ (if (s.rec_ t && !s.closed (f, t)) = true then qput s.wayR (f, t) (s.wayR (f, t) + x) else s.wayR) p
      split
      · rw [qput_at]; split
        · have := h.wayR (f, t); omega
        · exact h.wayR p
      · exact h.wayR p
    · show (if (s.rec_ t && !s.closed (f, t)) = true then qput s.wayR (f, t) (s.wayR (f, t) + x) else s.wayR) (i, i) = 0
      split
      · rw [qput_ne (fun e => hft (by injection e with e1 e2; rw [← e1, ← e2]))]; exact h.own i
      · exact h.own i
    · show mks (qput s.way (f, t) l p) = _
      rw [qput_at]; split
      · rename_i e
        subst e
        rw [hmr]; exact h.mkn _
      · exact h.mkn p
    · show (if (s.rec_ t && !s.closed (f, t)) = true then qput s.wayR (f, t) (s.wayR (f, t) + x) else s.wayR) p = 0
      split
      · rename_i hr
        rw [qput_at]; split
        · rename_i e
          subst e
          replace hp : s.rec_ t = false := hp
          rw [hp] at hr; simp at hr
        · exact h.un p hp
      · exact h.un p hp
    · rw [← h.all]
      have hK : ∀ i, i < n → (if s.rec_ i = true then s.kept i else upd s.have_ t (s.have_ t + x) i) = upd (cntK s) t (cntK s t + if s.rec_ t = true then 0 else x) i := by
        intro i _
        rw [upd_apply, upd_apply]
        by_cases e : i = t
        · subst e
          rw [if_pos rfl, if_pos rfl]
          unfold cntK
          split <;> omega
        · rw [if_neg e, if_neg e]; rfl
      have e1 : sumS (cntK { s with way := qput s.way (f, t) l, have_ := upd s.have_ t (s.have_ t + x), wayR := if s.rec_ t && !s.closed (f, t) then qput s.wayR (f, t) (s.wayR (f, t) + x) else s.wayR }) n = sumS (cntK s) n + if s.rec_ t = true then 0 else x :=
        (sumS_congr hK).trans (by rw [sumS_upd ht]; omega)
      have e2 : sumP (cntW { s with way := qput s.way (f, t) l, have_ := upd s.have_ t (s.have_ t + x), wayR := if s.rec_ t && !s.closed (f, t) then qput s.wayR (f, t) (s.wayR (f, t) + x) else s.wayR }) n = sumP (cntW s) n - if s.rec_ t = true then 0 else x := by
        rw [sumP_congr (g := qput (cntW s) (f, t) (cntW s (f, t) - if s.rec_ t = true then 0 else x)), sumP_put hf ht]
        · omega
        · intro p _ _
          show (if (s.rec_ t && !s.closed (f, t)) = true then qput s.wayR (f, t) (s.wayR (f, t) + x) else s.wayR) p + (if s.closed p = true then 0 else pre (qput s.way (f, t) l p)) = _
          rw [qput_at (cntW s)]
          by_cases e : p = (f, t)
          · subst e
            rw [if_pos rfl, qput_same]
            show _ = (s.wayR (f, t) + if s.closed (f, t) = true then 0 else pre (s.way (f, t))) - _
            rw [hw, pre, if_neg hx]
            cases hc : s.closed (f, t)
            · cases hr : s.rec_ t
              · simp; omega
              · simp [qput_same]; omega
            · have := (h.cl _ hc).2.2.2.2
              replace this : s.rec_ t = true := this
              rw [this]; simp
          · rw [if_neg e, qput_ne e]
            show (if (s.rec_ t && !s.closed (f, t)) = true then qput s.wayR (f, t) (s.wayR (f, t) + x) else s.wayR) p + _ = s.wayR p + _
            congr 1
            split
            · rw [qput_ne e]
            · rfl
      rw [e1, e2]; omega
theorem snBad_of {n : Nat} {k f t : Int} (h : ¬ snBad n k f t = true) : (0 ≤ f ∧ f < n) ∧ (k ≠ 3 → (0 ≤ t ∧ t < n) ∧ f ≠ t) := by
  have h : snBad n k f t = false := by simpa using h
  unfold snBad at h
  simp only [Bool.or_eq_false_iff, Bool.not_eq_false', Bool.and_eq_true, decide_eq_true_eq, Bool.and_eq_false_iff] at h
  refine ⟨h.1, fun hk => ?_⟩
  rcases h.2 with h2 | h2
  · simp at h2; exact absurd h2 hk
  · simpa using h2
theorem SJ.next {n : Nat} {k f t v : Int} {s : SN} (h : SJ n s) : SJ n (snStep n k f t v s).2 := by
  unfold snStep
  split
  · exact h
  split
  · exact h
  rename_i hk hb
  obtain ⟨⟨hf1, hf2⟩, hb⟩ := snBad_of hb
  have hfn : f.toNat < n := by omega
  split
  · rename_i h2
    obtain ⟨⟨ht1, ht2⟩, hft⟩ := hb (by omega)
    unfold takeN
    split
    · exact h
    · rename_i x l hw
      exact h.take hfn (by omega) (by omega) hw
  split
  · split
    · exact h
    · exact (h.record hfn).1
  split
  · exact h
  · rename_i h2 h3 h4
    obtain ⟨⟨ht1, ht2⟩, hft⟩ := hb (by omega)
    exact h.send hfn (by omega) (by omega) (by omega) (by omega)
theorem snE_J (n : Nat) (M : Mv) : ∀ j, SJ n (snE n M j)
  | 0 => SJ.start n
  | j + 1 => (snE_J n M j).next
/-- Nothing is lost. -/
def sumL : List Int → Int
  | [] => 0
  | x :: l => x + sumL l
theorem sumL_app (l : List Int) (x : Int) : sumL (l ++ [x]) = sumL l + x := by
  induction l with
  | nil => simp [sumL]
  | cons y l ih => rw [List.cons_append, sumL, ih, sumL]; omega
theorem sumL_ge {l : List Int} (h : ∀ x, x ∈ l → 0 ≤ x) : 0 ≤ sumL l ∧ ∀ x, x ∈ l → x ≤ sumL l := by
  induction l with
  | nil => exact ⟨Int.le_refl _, fun x hx => by simp at hx⟩
  | cons y l ih =>
    obtain ⟨h1, h2⟩ := ih fun x hx => h x (List.mem_cons_of_mem _ hx)
    have h3 := h y List.mem_cons_self
    rw [sumL]
    refine ⟨by omega, fun x hx => ?_⟩
    rcases List.mem_cons.1 hx with rfl | hx
    · omega
    · have := h2 x hx; omega
theorem sumS_ge {f : Nat → Int} : ∀ {n : Nat}, (∀ i, i < n → 0 ≤ f i) → ∀ i, i < n → f i ≤ sumS f n
  | 0, _, i, hi => by omega
  | n + 1, h, i, hi => by
    have h1 := sumS_nn (n := n) fun i hi => h i (by omega)
    have h2 := h n (by omega)
    rw [sumS]
    by_cases e : i = n
    · subst e; omega
    · have := sumS_ge (n := n) (fun i hi => h i (by omega)) i (by omega)
      omega
theorem sumP_ge {f : Nat × Nat → Int} {n : Nat} (h : ∀ p : Nat × Nat, p.1 < n → p.2 < n → 0 ≤ f p) : 0 ≤ sumP f n ∧ ∀ p : Nat × Nat, p.1 < n → p.2 < n → f p ≤ sumP f n := by
  have hr : ∀ i, i < n → 0 ≤ sumS (fun j => f (i, j)) n := fun i hi => sumS_nn fun j hj => h (i, j) hi hj
  refine ⟨sumS_nn hr, fun p h1 h2 => ?_⟩
  have a := sumS_ge hr p.1 h1
  have b := sumS_ge (f := fun j => f (p.1, j)) (fun j hj => h (p.1, j) h1 hj) p.2 h2
  exact Int.le_trans b a
def totN (n : Nat) (s : SN) : Int := sumS s.have_ n + sumP (fun p => sumL (s.way p)) n
theorem tot_rec (n i : Nat) (s : SN) : totN n (recS n i s) = totN n s := by
  unfold recS
  split
  · rfl
  · unfold totN
    congr 1
    refine sumP_congr fun p _ _ => ?_
    show sumL (marks i n s.way p) = _
    rw [marks_at]; split
    · rw [sumL_app]; omega
    · rfl
theorem tot_put {n : Nat} {s : SN} {p : Nat × Nat} {l : List Int} (h1 : p.1 < n) (h2 : p.2 < n) : sumP (fun q => sumL (qput s.way p l q)) n = sumP (fun q => sumL (s.way q)) n + (sumL l - sumL (s.way p)) := by
  rw [sumP_congr (g := qput (fun q => sumL (s.way q)) p (sumL l)), sumP_put h1 h2]
  intro q _ _
  rw [qput_at, qput_at]; split <;> rfl
theorem tot_next {n : Nat} {k f t v : Int} {s : SN} : totN n (snStep n k f t v s).2 = totN n s := by
  unfold snStep
  split
  · rfl
  split
  · rfl
  rename_i hk hb
  obtain ⟨⟨hf1, hf2⟩, hb⟩ := snBad_of hb
  have hfn : f.toNat < n := by omega
  split
  · rename_i h2
    obtain ⟨⟨ht1, ht2⟩, hft⟩ := hb (by omega)
    have htn : t.toNat < n := by omega
    unfold takeN
    split
    · rfl
    · rename_i x l hw
      unfold takeT
      split
      · rename_i hx
        show totN n (recS n t.toNat { s with way := qput s.way (f.toNat, t.toNat) l }) = _
        rw [tot_rec]
        unfold totN
        show sumS s.have_ n + sumP (fun q => sumL (qput s.way (f.toNat, t.toNat) l q)) n = _
        rw [tot_put hfn htn, hw, sumL, hx]; omega
      · unfold totN
        show sumS (upd s.have_ t.toNat _) n + sumP (fun q => sumL (qput s.way (f.toNat, t.toNat) l q)) n = _
        rw [tot_put hfn htn, hw, sumL, sumS_upd htn]; omega
  split
  · split
    · rfl
    · exact tot_rec n f.toNat s
  split
  · rfl
  · rename_i h2 h3 h4
    obtain ⟨⟨ht1, ht2⟩, hft⟩ := hb (by omega)
    unfold totN
    show sumS (upd s.have_ f.toNat _) n + sumP (fun q => sumL (qput s.way (f.toNat, t.toNat) _ q)) n = _
    rw [tot_put hfn (by omega), sumL_app, sumS_upd hfn]; omega
theorem tot_all (n : Nat) (M : Mv) : ∀ j, totN n (snE n M j) = n * 100
  | 0 => by
    unfold totN
    have h1 : sumS SN0.have_ n = n * 100 := sumS_const 100 n
    have h0 : ∀ i, sumS (fun j => sumL (SN0.way (i, j))) n = 0 := fun i => (sumS_const 0 n).trans (by simp)
    have h2 : sumP (fun p => sumL (SN0.way p)) n = 0 := (sumS_congr (g := fun _ => 0) fun i _ => h0 i).trans ((sumS_const 0 n).trans (by simp))
    show sumS SN0.have_ n + sumP (fun p => sumL (SN0.way p)) n = _
    omega
  | j + 1 => tot_next.trans (tot_all n M j)
/-- All numbers are small. -/
structure BN (n : Nat) (s : SN) : Prop where
  hv : ∀ i, i < n → 0 ≤ s.have_ i ∧ s.have_ i ≤ 600
  wy : ∀ p : Nat × Nat, p.1 < n → p.2 < n → ∀ x, x ∈ s.way p → 0 ≤ x ∧ x ≤ 600
  wr : ∀ p : Nat × Nat, p.1 < n → p.2 < n → 0 ≤ s.wayR p ∧ s.wayR p ≤ 600
theorem pre_nn {l : List Int} (h : ∀ x, x ∈ l → 0 ≤ x) : 0 ≤ pre l := by
  induction l with
  | nil => exact Int.le_refl _
  | cons y l ih =>
    have h1 := ih fun x hx => h x (List.mem_cons_of_mem _ hx)
    have h3 := h y List.mem_cons_self
    rw [pre]; split <;> omega
theorem SJ.small {n : Nat} {s : SN} (h : SJ n s) (ht : totN n s = n * 100) (hn : n ≤ 6) : BN n s := by
  unfold totN at ht
  have a1 := sumS_ge (f := s.have_) (n := n) fun i _ => h.have_ i
  have a2 := sumS_nn (f := s.have_) (n := n) fun i _ => h.have_ i
  have hw : ∀ p, 0 ≤ sumL (s.way p) ∧ ∀ x, x ∈ s.way p → x ≤ sumL (s.way p) := fun p => sumL_ge (h.way p)
  obtain ⟨b1, b2⟩ := sumP_ge (f := fun p => sumL (s.way p)) (n := n) fun p _ _ => (hw p).1
  have hK : ∀ i, 0 ≤ cntK s i := fun i => by
    unfold cntK
    have := h.kept i
    have := h.have_ i
    split <;> omega
  have hC : ∀ p, s.wayR p ≤ cntW s p ∧ 0 ≤ cntW s p := fun p => by
    unfold cntW
    have := h.wayR p
    have := pre_nn (h.way p)
    split <;> omega
  have c1 := sumS_nn (f := cntK s) (n := n) fun i _ => hK i
  obtain ⟨d1, d2⟩ := sumP_ge (f := cntW s) (n := n) fun p _ _ => (hC p).2
  have hall := h.all
  refine ⟨fun i hi => ?_, fun p h1 h2 x hx => ?_, fun p h1 h2 => ?_⟩
  · have := a1 i hi
    exact ⟨h.have_ i, by omega⟩
  · have e1 := b2 p h1 h2
    have e2 := (hw p).2 x hx
    have e3 := h.way p x hx
    exact ⟨e3, by omega⟩
  · have e1 := d2 p h1 h2
    have e2 := (hC p).1
    exact ⟨h.wayR p, by omega⟩
theorem snE_B {n : Nat} (hn : n ≤ 6) (M : Mv) (j : Nat) : BN n (snE n M j) := (snE_J n M j).small (tot_all n M j) hn
theorem way_step {n : Nat} {k f t v : Int} {s : SN} {m : Nat} (h : ∀ p, (s.way p).length ≤ m) : ∀ p, ((snStep n k f t v s).2.way p).length ≤ m + 1 := by
  intro p
  have hp := h p
  have rc : ∀ (i : Nat) (s : SN), (∀ p, (s.way p).length ≤ m) → ((recS n i s).way p).length ≤ m + 1 := by
    intro i s h
    have hp := h p
    unfold recS
    split
    · omega
    · show (marks i n s.way p).length ≤ _
      rw [marks_at]; split
      · simp; omega
      · omega
  unfold snStep
  split
  · exact Nat.le_succ_of_le hp
  split
  · exact Nat.le_succ_of_le hp
  split
  · unfold takeN
    split
    · exact Nat.le_succ_of_le hp
    · rename_i x l hw
      have h2 : ∀ p, (qput s.way (f.toNat, t.toNat) l p).length ≤ m := fun q => by
        rw [qput_at]; split
        · have := h (f.toNat, t.toNat); rw [hw] at this; simp at this; omega
        · exact h q
      unfold takeT
      split
      · exact rc t.toNat _ h2
      · exact Nat.le_succ_of_le (h2 p)
  split
  · split
    · exact Nat.le_succ_of_le hp
    · exact rc f.toNat s h
  split
  · exact Nat.le_succ_of_le hp
  · show (qput s.way (f.toNat, t.toNat) _ p).length ≤ _
    rw [qput_at]; split
    · have := h (f.toNat, t.toNat); simp; omega
    · omega
theorem snE_len (n : Nat) (M : Mv) : ∀ j p, ((snE n M j).way p).length ≤ j
  | 0, p => Nat.le_refl _
  | j + 1, p => way_step (snE_len n M j) p
/-- All ways that are. -/
def waysN (n : Nat) : List (Nat × Nat) := (pairs n).filter fun p => p.1 != p.2
def cntC (n : Nat) (c : Nat × Nat → Bool) : Nat := ((pairs n).filter c).length
def snDone (n : Nat) (s : SN) : Bool := decide ((cntC n s.closed : Int) = n * (n - 1)) && (List.range n).all s.rec_
end Go.Proofs.Ytfcgjmekeonemaa
