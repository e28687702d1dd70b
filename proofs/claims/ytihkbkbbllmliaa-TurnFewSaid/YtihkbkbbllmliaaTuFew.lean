/- How many are sent in turn, at most and at least. -/
import Derived.Test.YtihkbkbbllmliaaTuLaw
set_option linter.unusedVariables false
set_option linter.unusedSimpArgs false
namespace Go.Proofs.Ytihkbkbbllmliaa

def sumQ (n : Nat) (g : Nat × Nat → Nat) : Nat := ((pairs n).map g).sum
theorem sumQ_congr {n : Nat} {g h : Nat × Nat → Nat} (e : ∀ p : Nat × Nat, p.1 < n → p.2 < n → g p = h p) : sumQ n g = sumQ n h := by
  unfold sumQ
  rw [List.map_congr_left fun p hp => e p (mem_pairs.1 hp).1 (mem_pairs.1 hp).2]
theorem sumL_add {α : Type} (g h : α → Nat) : ∀ l : List α, (l.map fun p => g p + h p).sum = (l.map g).sum + (l.map h).sum
  | [] => rfl
  | x :: l => by
    have := sumL_add g h l
    simp only [List.map_cons, List.sum_cons]
    omega
theorem sumQ_add (n : Nat) (g h : Nat × Nat → Nat) : sumQ n (fun p => g p + h p) = sumQ n g + sumQ n h := sumL_add g h _
theorem sumQ_put {n : Nat} {g h : Nat × Nat → Nat} {p : Nat × Nat} (h1 : p.1 < n) (h2 : p.2 < n) (e : ∀ q, q ≠ p → h q = g q) : sumQ n h + g p = sumQ n g + h p := by
  unfold sumQ
  have hm := mem_pairs.2 ⟨h1, h2⟩
  rw [sum_erase h hm, sum_erase g hm, List.map_congr_left (f := h) (g := g) fun q hq => e q fun e' => by
    subst e'
    exact List.Nodup.not_mem_erase (pairs_nodup n) hq]
  omega
theorem sum_range_one {n i c : Nat} (hi : i < n) : ((List.range n).map fun j => if j = i then c else 0).sum = c := by
  have : ∀ m, ((List.range m).map fun j => if j = i then c else 0).sum = if i < m then c else 0 := by
    intro m
    induction m with
    | zero => rfl
    | succ m ih =>
      rw [List.range_succ, List.map_append, List.sum_append, ih]
      simp only [List.map_cons, List.map_nil, List.sum_cons, List.sum_nil, Nat.add_zero]
      by_cases h1 : i < m
      · rw [if_pos h1, if_neg (by omega), if_pos (by omega)]; rfl
      · by_cases h2 : m = i
        · rw [if_neg h1, if_pos h2, if_pos (by omega)]; omega
        · rw [if_neg h1, if_neg h2, if_neg (by omega)]
  rw [this, if_pos hi]
theorem sumQ_row {n i : Nat} (hi : i < n) (g : Nat → Nat) : sumQ n (fun p => if p.1 = i then g p.2 else 0) = ((List.range n).map g).sum := by
  unfold sumQ pairs
  have : ∀ l : List Nat, ((l.flatMap fun a => (List.range n).map fun b => (a, b)).map (fun p : Nat × Nat => if p.1 = i then g p.2 else 0)).sum = (l.map fun a => if a = i then ((List.range n).map g).sum else 0).sum := by
    intro l
    induction l with
    | nil => rfl
    | cons a l ih =>
      rw [List.flatMap_cons, List.map_append, List.sum_append, ih, List.map_cons, List.sum_cons]
      congr 1
      rw [List.map_map]
      by_cases e : a = i
      · rw [if_pos e]
        congr 1
        exact List.map_congr_left fun b _ => if_pos e
      · rw [if_neg e]
        have : ((List.range n).map ((fun p : Nat × Nat => if p.1 = i then g p.2 else 0) ∘ fun b => (a, b))) = (List.range n).map fun _ => 0 := List.map_congr_left fun b _ => if_neg e
        rw [this]
        have : ∀ m, ((List.range m).map fun _ => 0).sum = 0 := by
          intro m
          induction m with
          | zero => rfl
          | succ m ih => rw [List.range_succ, List.map_append, List.sum_append, ih]; rfl
        exact this n
  rw [this, sum_range_one hi]
theorem popTo_sum (w : Nat) : ∀ n, popTo w n = ((List.range n).map fun j => (w.testBit j).toNat).sum
  | 0 => rfl
  | n + 1 => by rw [popTo, popTo_sum w n, List.range_succ, List.map_append, List.sum_append]; simp
theorem ones_but {n i : Nat} (hi : i < n) : ((List.range n).map fun j => if j ≠ i then 1 else 0).sum + 1 = n := by
  have h1 := sum_range_one (n := n) (i := i) (c := 1) hi
  have h2 := sumL_add (fun j => if j ≠ i then 1 else 0) (fun j => if j = i then 1 else 0) (List.range n)
  have h3 : ((List.range n).map fun j => (if j ≠ i then 1 else 0) + if j = i then 1 else 0).sum = n := by
    have : ((List.range n).map fun j => (if j ≠ i then 1 else 0) + if j = i then 1 else 0) = (List.range n).map fun _ => 1 := List.map_congr_left fun j _ => by by_cases e : j = i <;> simp [e]
    rw [this]
    have : ∀ m, ((List.range m).map fun _ => 1).sum = m := by
      intro m
      induction m with
      | zero => rfl
      | succ m ih => rw [List.range_succ, List.map_append, List.sum_append, ih]; rfl
    exact this n
  omega
def askN (n : Nat) (s : TS) : Nat := sumQ n fun p => nA (s.way p)
def defN (n : Nat) (s : TS) : Nat := ((List.range n).map fun t => popTo (s.p t).wt n).sum
theorem def_upd {n a : Nat} {s : TS} {o : One} (ha : a < n) : ((List.range n).map fun t => popTo (upd s.p a o t).wt n).sum + popTo (s.p a).wt n = defN n s + popTo o.wt n := by
  unfold defN
  have e1 := sumL_add (fun t => popTo (upd s.p a o t).wt n) (fun t => if t = a then popTo (s.p a).wt n else 0) (List.range n)
  have e2 := sumL_add (fun t => popTo (s.p t).wt n) (fun t => if t = a then popTo o.wt n else 0) (List.range n)
  rw [sum_range_one ha] at e1 e2
  rw [← e1, ← e2]
  congr 1
  refine List.map_congr_left fun t _ => ?_
  by_cases e : t = a
  · subst e; rw [upd_same, if_pos rfl, if_pos rfl]; omega
  · rw [upd_ne _ _ e, if_neg e, if_neg e]
theorem def_same {n a : Nat} {s : TS} {o : One} (ho : o.wt = (s.p a).wt) : ((List.range n).map fun t => popTo (upd s.p a o t).wt n).sum = defN n s := by
  unfold defN
  congr 1
  refine List.map_congr_left fun t _ => ?_
  by_cases e : t = a
  · subst e; rw [upd_same, ho]
  · rw [upd_ne _ _ e]
theorem popTo_or1 (a f : Nat) : ∀ m, popTo (a ||| 2 ^ f) m ≤ popTo a m + if f < m then 1 else 0
  | 0 => by simp [popTo]
  | m + 1 => by
    have ih := popTo_or1 a f m
    rw [popTo, popTo, Nat.testBit_or, Nat.testBit_two_pow]
    by_cases e : f = m
    · subst e
      rw [if_neg (by omega)] at ih
      rw [if_pos (by omega)]
      have h1 := Bool.toNat_le (a.testBit f || decide (f = f))
      omega
    · have : decide (f = m) = false := by simpa using e
      rw [this, Bool.or_false]
      by_cases h : f < m
      · rw [if_pos h] at ih
        rw [if_pos (by omega)]; omega
      · rw [if_neg h] at ih
        rw [if_neg (by omega)]; omega
/-- The invariant: W wanted in, T were taken. -/
def FewI (n W T : Nat) (s : TS) : Prop := (n - 1) * W ≤ T + wayLen n s.way ∧ T + wayLen n s.way + askN n s + defN n s ≤ 2 * ((n - 1) * W)
theorem enter_few {n i : Nat} {s : TS} : (enterS n i s).way = s.way ∧ defN n (enterS n i s) = defN n s := by
  unfold enterS
  split
  · exact ⟨rfl, def_same (s := s) rfl⟩
  · exact ⟨rfl, rfl⟩
theorem wl (n : Nat) (q : Nat × Nat → List Int) : wayLen n q = sumQ n fun p => (q p).length := rfl
theorem few_want {n i W T : Nat} {s : TS} (hi : i < n) (hc : 0 ≤ (s.p i).ck) (h : FewI n W T s) : FewI n (W + 1) T (enterS n i (wantP i n s)) := by
  obtain ⟨h1, h2⟩ := h
  obtain ⟨e1, e2⟩ := enter_few (n := n) (i := i) (s := wantP i n s)
  have hx : (s.p i).ck + 1 ≠ 0 := by omega
  have e3 : defN n (wantP i n s) = defN n s := def_same (s := s) rfl
  have hlen : wayLen n (wantP i n s).way = wayLen n s.way + (n - 1) := by
    have hr := sumQ_row (n := n) hi fun j => if j ≠ i then 1 else 0
    have ho := ones_but hi
    rw [wl, wl, show n - 1 = sumQ n (fun p => if p.1 = i then (if p.2 ≠ i then 1 else 0) else 0) by omega, ← sumQ_add]
    refine sumQ_congr fun p hp1 hp2 => ?_
    show (asksTo i n _ s.way p).length = _
    rw [asks_at]
    by_cases a : p.1 = i
    · by_cases b : p.2 = i
      · rw [if_neg (fun e => e.2.1 b)]; simp [a, b]
      · rw [if_pos ⟨a, b, hp2⟩]; simp [a, b]
    · rw [if_neg (fun e => a e.1)]; simp [a]
  have hask : askN n (wantP i n s) = askN n s + (n - 1) := by
    have hr := sumQ_row (n := n) hi fun j => if j ≠ i then 1 else 0
    have ho := ones_but hi
    unfold askN
    rw [show n - 1 = sumQ n (fun p => if p.1 = i then (if p.2 ≠ i then 1 else 0) else 0) by omega, ← sumQ_add]
    refine sumQ_congr fun p hp1 hp2 => ?_
    show nA (asksTo i n _ s.way p) = _
    rw [asks_at]
    by_cases a : p.1 = i
    · by_cases b : p.2 = i
      · rw [if_neg (fun e => e.2.1 b)]; simp [a, b]
      · rw [if_pos ⟨a, b, hp2⟩, nA_app, if_neg hx]; simp [a, b]
    · rw [if_neg (fun e => a e.1)]; simp [a]
  have ha : askN n (enterS n i (wantP i n s)) = askN n (wantP i n s) := by unfold askN; rw [e1]
  unfold FewI
  rw [e1, e2, e3, hlen, ha, hask, Nat.mul_add, Nat.mul_one]
  omega
theorem few_come {n f t W T : Nat} {x : Int} {l : List Int} {s : TS} (hf : f < n) (ht : t < n) (hft : f ≠ t) (hw : s.way (f, t) = x :: l) (h : FewI n W T s) : FewI n W (T + 1) (comeT n f t x l s) := by
  obtain ⟨h1, h2⟩ := h
  have hl := sumQ_put (n := n) (g := fun p => (s.way p).length) (h := fun p => (qput s.way (f, t) l p).length) (p := (f, t)) hf ht (fun q hq => by simp only [qput_ne hq])
  have ha := sumQ_put (n := n) (g := fun p => nA (s.way p)) (h := fun p => nA (qput s.way (f, t) l p)) (p := (f, t)) hf ht (fun q hq => by simp only [qput_ne hq])
  simp only [qput_same, hw, List.length_cons, nA] at hl ha
  have hl : wayLen n (qput s.way (f, t) l) + 1 = wayLen n s.way := by rw [wl, wl]; omega
  unfold comeT
  split
  · rename_i hx
    rw [if_pos hx, Nat.zero_add] at ha
    obtain ⟨e1, e2⟩ := enter_few (n := n) (i := t) (s := leaveT f t l s)
    have e3 : defN n (leaveT f t l s) = defN n s := def_same (s := s) rfl
    have e4 : askN n (enterS n t (leaveT f t l s)) = askN n s := by
      unfold askN
      rw [e1]
      show sumQ n (fun p => nA (qput s.way (f, t) l p)) = _
      omega
    have e5 : wayLen n (enterS n t (leaveT f t l s)).way + 1 = wayLen n s.way := by rw [e1]; exact hl
    unfold FewI
    rw [e2, e3, e4]
    omega
  · rename_i hx
    rw [if_neg hx] at ha
    split
    · have e3 := def_upd (n := n) (a := t) (s := s) (o := { s.p t with ck := max (s.p t).ck x, wt := (s.p t).wt ||| 2 ^ f }) ht
      have e6 := popTo_or1 (s.p t).wt f n
      rw [if_pos hf] at e6
      have e3 : defN n (deferT f t x l s) + popTo (s.p t).wt n = defN n s + popTo ((s.p t).wt ||| 2 ^ f) n := e3
      have e4 : askN n (deferT f t x l s) + 1 = askN n s := by
        show sumQ n (fun p => nA (qput s.way (f, t) l p)) + 1 = sumQ n fun p => nA (s.way p)
        omega
      have e5 : wayLen n (deferT f t x l s).way + 1 = wayLen n s.way := hl
      unfold FewI
      omega
    · have hne : (t, f) ≠ (f, t) := fun e => hft (Prod.mk.inj e).2
      have hl2 := sumQ_put (n := n) (g := fun p => (qput s.way (f, t) l p).length) (h := fun p => ((replyT f t x l s).way p).length) (p := (t, f)) ht hf (fun q hq => by
        show (qput (qput s.way (f, t) l) (t, f) _ q).length = _
        rw [qput_ne hq])
      have ha2 := sumQ_put (n := n) (g := fun p => nA (qput s.way (f, t) l p)) (h := fun p => nA ((replyT f t x l s).way p)) (p := (t, f)) ht hf (fun q hq => by
        show nA (qput (qput s.way (f, t) l) (t, f) _ q) = _
        rw [qput_ne hq])
      have hv : (replyT f t x l s).way (t, f) = qput s.way (f, t) l (t, f) ++ [0] := qput_same ..
      simp only [hv, nA_app, List.length_append, List.length_singleton, if_true] at hl2 ha2
      have e3 : defN n (replyT f t x l s) = defN n s := def_same (s := s) rfl
      have e4 : askN n (replyT f t x l s) + 1 = askN n s := by
        show sumQ n (fun p => nA ((replyT f t x l s).way p)) + 1 = sumQ n fun p => nA (s.way p)
        omega
      have e5 : wayLen n (replyT f t x l s).way = wayLen n s.way := by
        rw [wl, wl] at hl ⊢
        omega
      unfold FewI
      rw [e3, e5]
      omega
theorem few_out {n i W T : Nat} {s : TS} (hi : i < n) (h : FewI n W T s) : FewI n W T (outP n i s) := by
  obtain ⟨h1, h2⟩ := h
  have e3 := def_upd (n := n) (a := i) (s := s) (o := { s.p i with inn := false, wt := 0 }) hi
  have e3 : defN n (outP n i s) + popTo (s.p i).wt n = defN n s + popTo 0 n := e3
  have e0 : popTo 0 n = 0 := popTo_none fun j _ => Nat.zero_testBit j
  have hlen : wayLen n (outP n i s).way = wayLen n s.way + popTo (s.p i).wt n := by
    rw [wl, wl, popTo_sum, ← sumQ_row (n := n) hi fun j => ((s.p i).wt.testBit j).toNat, ← sumQ_add]
    refine sumQ_congr fun p hp1 hp2 => ?_
    show (leavesTo i n _ s.way p).length = _
    rw [leaves_at]
    by_cases a : p.1 = i
    · cases b : (s.p i).wt.testBit p.2
      · rw [if_neg (by simp)]; simp [a, b]
      · rw [if_pos ⟨a, hp2, rfl⟩]; simp [a, b]
    · rw [if_neg (fun e => a e.1)]; simp [a]
  have hask : askN n (outP n i s) = askN n s := sumQ_congr fun p hp1 hp2 => by
    show nA (leavesTo i n _ s.way p) = _
    rw [leaves_at]
    split
    · rw [nA_app, if_pos rfl, Nat.add_zero]
    · rfl
  unfold FewI
  omega
/-- What was done, counted. -/
def wantN (n : Nat) (M : Mv) : Nat → Nat
  | 0 => 0
  | j + 1 => wantN n M j + if tuC n M j = 0 ∧ M.k j = 1 then 1 else 0
def tookN (n : Nat) (M : Mv) : Nat → Nat
  | 0 => 0
  | j + 1 => tookN n M j + if tuC n M j = 0 ∧ M.k j = 2 then 1 else 0
theorem few_step {n W T : Nat} {k f t : Int} {s : TS} (hJ : TJ n s) (h : FewI n W T s) : FewI n (W + if (tuStep n k f t s).1 = 0 ∧ k = 1 then 1 else 0) (T + if (tuStep n k f t s).1 = 0 ∧ k = 2 then 1 else 0) (tuStep n k f t s).2 := by
  obtain ⟨⟨num, hI⟩, _⟩ := hJ
  unfold tuStep
  split
  · exact h
  rename_i hk
  split
  · exact h
  rename_i hb
  have hb : tuBad n k f t = false := by simpa using hb
  unfold tuBad at hb
  simp only [Bool.or_eq_false_iff, Bool.not_eq_false', Bool.and_eq_true, decide_eq_true_eq, Bool.and_eq_false_iff] at hb
  obtain ⟨⟨hf1, hf2⟩, hb⟩ := hb
  have hfn : f.toNat < n := by omega
  split
  · rename_i h1
    subst h1
    unfold wantS
    split
    · exact h
    · exact few_want hfn (hI.ckn _).1 h
  rename_i h1
  split
  · rename_i h2
    subst h2
    have hb2 : (0 ≤ t ∧ t < n) ∧ f ≠ t := by
      rcases hb with hb | hb
      · simp at hb
      · simpa using hb
    unfold comeS
    split
    · exact h
    · rename_i x l hw
      exact few_come hfn (by omega) (by omega) hw h
  · rename_i h2
    rw [if_neg (fun e => h1 e.2), if_neg (fun e => h2 e.2)]
    unfold outS
    split
    · exact h
    · exact few_out hfn h
theorem few_all (n : Nat) (M : Mv) : ∀ j, FewI n (wantN n M j) (tookN n M j) (tuE n M j)
  | 0 => by
    have h1 : wayLen n (tuE n M 0).way = 0 := by
      have : wayLen n (tuE n M 0).way = ((pairs n).map fun _ => 0).sum := rfl
      rw [this]
      generalize pairs n = l
      induction l with
      | nil => rfl
      | cons x l ih => rw [List.map_cons, List.sum_cons, ih]
    have h2 : askN n (tuE n M 0) = 0 := by
      have : askN n (tuE n M 0) = ((pairs n).map fun _ => 0).sum := rfl
      rw [this]
      generalize pairs n = l
      induction l with
      | nil => rfl
      | cons x l ih => rw [List.map_cons, List.sum_cons, ih]
    have h3 : defN n (tuE n M 0) = 0 := by
      have e0 : popTo 0 n = 0 := popTo_none fun j _ => Nat.zero_testBit j
      have : defN n (tuE n M 0) = ((List.range n).map fun _ => popTo 0 n).sum := rfl
      rw [this, e0]
      generalize List.range n = l
      induction l with
      | nil => rfl
      | cons x l ih => rw [List.map_cons, List.sum_cons, ih]
    unfold FewI
    rw [h1, h2, h3]
    simp [wantN, tookN]
  | j + 1 => few_step (tuE_J n M j) (few_all n M j)
end Go.Proofs.Ytihkbkbbllmliaa
