/- token: what an ask, a row's turn and the token's way do to the tree. -/
import Derived.Test.YtihkbkbbllmliaaTkRay
set_option linter.unusedVariables false
set_option linter.unusedSimpArgs false
namespace Go.Proofs.Ytihkbkbbllmliaa

/-- A row grows; the ask is sent if it must be. -/
theorem RJ.stand {n loc src i who : Nat} {s : KS} {w1 : Nat × Nat → List Bool} (h : RJ n s loc src) (hi : i < n) (hwho : who < n)
    (h1 : who = i → i ∉ s.row i) (h2 : who ≠ i → who ≠ loc ∧ s.pt who = i)
    (hw1 : ∀ y, y < n → y ≠ loc → nF (w1 (y, s.pt y)) + (if y = who ∧ who ≠ i then 1 else 0) = nF (s.way (y, s.pt y)))
    (ht1 : ∀ y x, nT (w1 (y, x)) = nT (s.way (y, x))) (hy1 : ∀ p, w1 p ≠ [] → s.way p ≠ []) :
    RJ n (askK i (addK i who { s with way := w1 })) loc src ∧ wayLen n (askK i (addK i who { s with way := w1 })).way + outN n s loc = wayLen n w1 + outN n (askK i (addK i who { s with way := w1 })) loc := by
  have hcnt : ∀ y, y < n → y ≠ loc → (upd s.row i (s.row i ++ [who]) (s.pt y)).count y = (s.row (s.pt y)).count y + if y = who ∧ s.pt y = i then 1 else 0 := fun y hy hl => by
    rw [upd_apply]
    by_cases e : s.pt y = i
    · rw [if_pos e, List.count_append, e]
      by_cases e2 : y = who
      · subst e2; simp
      · rw [if_neg (fun h => e2 h.1), List.count_eq_zero.2 (show y ∉ [who] by simp; exact e2)]
    · rw [if_neg e, if_neg (fun h => e h.2)]; rfl
  have hpi : ∀ y, y < n → y ≠ loc → y = who → s.pt y = i → who ≠ i := fun y hy hl e1 e2 e3 => by
    have := h.nself hy hl
    omega
  have hself : ∀ y, y < n → y ≠ loc → (if y = who ∧ s.pt y = i then 1 else 0) = if y = who ∧ who ≠ i then 1 else 0 := fun y hy hl => by
    by_cases e : y = who
    · by_cases e2 : who = i
      · have := h.nself hy hl
        rw [if_neg (fun h => by omega), if_neg (fun h => h.2 e2)]
      · obtain ⟨_, q⟩ := h2 e2
        rw [if_pos ⟨e, by rw [e]; exact q⟩, if_pos ⟨e, e2⟩]
    · rw [if_neg (fun h => e h.1), if_neg (fun h => e h.1)]
  -- the common part
  have hbase : ∀ w2 : Nat × Nat → List Bool, (∀ y, y < n → y ≠ loc → nF (w2 (y, s.pt y)) + (upd s.row i (s.row i ++ [who]) (s.pt y)).count y = if upd s.row i (s.row i ++ [who]) y = [] then 0 else 1) → (∀ y x, nT (w2 (y, x)) = nT (s.way (y, x))) → (∀ y x, w2 (y, x) ≠ [] → y < n ∧ y ≠ loc ∧ s.pt y = x) →
      RJ n ⟨s.pt, upd s.row i (s.row i ++ [who]), s.has, s.inn, w2⟩ loc src := by
    intro w2 ha ht hy
    refine ⟨h.lt, h.pt, fun j x hx => ?_, fun j => ?_, ?_, h.inn, fun y x hm hn => ?_, ha, fun y x => by rw [ht, h.tok], hy, h.rch⟩
    · change x ∈ upd s.row i _ j at hx
      rw [upd_apply] at hx
      split at hx
      · rcases List.mem_append.1 hx with hx | hx
        · exact h.row i x hx
        · rw [List.mem_singleton.1 hx]; exact hwho
      · exact h.row j x hx
    · show (upd s.row i _ j).count j ≤ 1
      rw [upd_apply]; split
      · rename_i e; subst e
        rw [List.count_append]
        by_cases e : who = j
        · subst e
          rw [List.count_eq_zero.2 (h1 rfl)]; simp
        · have := h.one j
          rw [List.count_eq_zero.2 (show j ∉ [who] by simp; omega)]; omega
      · exact h.one j
    · rcases h.hs with q | ⟨q1, q2, q3, q4, q5⟩
      · exact .inl q
      · refine .inr ⟨q1, q2, q3, q4, ?_⟩
        show upd s.row i _ loc ≠ []
        rw [upd_apply]; split
        · simp
        · exact q5
    · change y ∈ upd s.row i _ x at hm
      rw [upd_apply] at hm
      split at hm
      · rename_i e; subst e
        rcases List.mem_append.1 hm with hm | hm
        · exact h.nb y x hm hn
        · rw [List.mem_singleton] at hm
          subst hm
          exact h2 hn
      · exact h.nb y x hm hn
  have hwy1 : ∀ y x, w1 (y, x) ≠ [] → y < n ∧ y ≠ loc ∧ s.pt y = x := fun y x hne => h.wy y x (hy1 _ hne)
  by_cases hs : s.row i = [] ∧ i ≠ loc
  · obtain ⟨hr, hl⟩ := hs
    have hpt := h.nself hi hl
    have e : askK i (addK i who { s with way := w1 }) = ⟨s.pt, upd s.row i (s.row i ++ [who]), s.has, s.inn, qput w1 (i, s.pt i) (w1 (i, s.pt i) ++ [false])⟩ := by
      unfold askK
      rw [if_pos ⟨by show (upd s.row i _ i).length = 1; rw [upd_same, hr]; rfl, hpt⟩]; rfl
    rw [e]
    refine ⟨hbase _ (fun y hy hyl => ?_) (fun y x => ?_) (fun y x hne => ?_), ?_⟩
    · have q1 := h.ask y hy hyl
      have q2 := hw1 y hy hyl
      have q3 := hcnt y hy hyl
      have q4 := hself y hy hyl
      rw [q3]
      by_cases e2 : y = i
      · subst e2
        rw [qput_same, nF_app, if_pos rfl, q4, upd_same, if_neg (show s.row y ++ [who] ≠ [] by simp)]
        rw [hr, if_pos rfl] at q1
        omega
      · rw [qput_ne (fun e3 => e2 (Prod.ext_iff.1 e3).1), upd_ne _ _ e2, ← q1, q4]
        omega
    · by_cases e2 : (y, x) = (i, s.pt i)
      · rw [e2, qput_same, nT_app, if_neg (by decide), ht1]; rfl
      · rw [qput_ne e2]; exact ht1 y x
    · by_cases e2 : (y, x) = (i, s.pt i)
      · have e3 := (Prod.ext_iff.1 e2).1
        have e4 := (Prod.ext_iff.1 e2).2
        simp only at e3 e4
        rw [e3, e4]
        exact ⟨hi, hl, rfl⟩
      · rw [qput_ne e2] at hne; exact hwy1 y x hne
    · have q1 := wayQ_put (n := n) (q := w1) (p := (i, s.pt i)) (l := w1 (i, s.pt i) ++ [false]) hi (h.pt i hi)
      have q2 := sumN_put (n := n) (i := i) (g := fun y => if y ≠ loc ∧ s.row y ≠ [] then 1 else 0) (h := fun y => if y ≠ loc ∧ upd s.row i (s.row i ++ [who]) y ≠ [] then 1 else 0) hi (fun j _ hj => by simp only [upd_ne _ _ hj])
      simp only [upd_same] at q2
      rw [if_neg (fun h => h.2 hr), if_pos ⟨hl, by simp⟩] at q2
      simp only [List.length_append, List.length_singleton] at q1
      show wayLen n (qput w1 (i, s.pt i) (w1 (i, s.pt i) ++ [false])) + outN n s loc = wayLen n w1 + sumN n (fun y => if y ≠ loc ∧ upd s.row i (s.row i ++ [who]) y ≠ [] then 1 else 0)
      unfold outN
      omega
  · have e : askK i (addK i who { s with way := w1 }) = ⟨s.pt, upd s.row i (s.row i ++ [who]), s.has, s.inn, w1⟩ := by
      unfold askK
      rw [if_neg]
      · rfl
      · rintro ⟨q1, q2⟩
        change (upd s.row i _ i).length = 1 at q1
        change s.pt i ≠ i at q2
        rw [upd_same] at q1
        have hr : s.row i = [] := by
          cases hw : s.row i with
          | nil => rfl
          | cons a l => rw [hw] at q1; simp at q1
        have hl : i = loc := Classical.byContradiction fun hl => hs ⟨hr, hl⟩
        subst hl
        rcases h.hs with ⟨_, q⟩ | ⟨_, _, _, _, q⟩
        · exact q2 q
        · exact q hr
    rw [e]
    refine ⟨hbase _ (fun y hy hyl => ?_) ht1 hwy1, ?_⟩
    · have q1 := h.ask y hy hyl
      have q2 := hw1 y hy hyl
      have q3 := hcnt y hy hyl
      have q4 := hself y hy hyl
      rw [q3, q4]
      by_cases e2 : y = i
      · subst e2
        have hr : s.row y ≠ [] := fun hr => hs ⟨hr, hyl⟩
        rw [upd_same, if_neg (show s.row y ++ [who] ≠ [] by simp)]
        rw [if_neg hr] at q1
        omega
      · rw [upd_ne _ _ e2, ← q1]
        omega
    · show wayLen n w1 + outN n s loc = wayLen n w1 + sumN n (fun y => if y ≠ loc ∧ upd s.row i (s.row i ++ [who]) y ≠ [] then 1 else 0)
      congr 1
      refine (sumN_congr fun y hy => ?_).symm
      by_cases e2 : y = i
      · subst e2
        simp only [upd_same]
        by_cases hl : y = loc
        · rw [if_neg (fun h => h.1 hl), if_neg (fun h => h.1 hl)]
        · rw [if_pos ⟨hl, by simp⟩, if_pos ⟨hl, fun hr => hs ⟨hr, hl⟩⟩]
      · simp only [upd_ne _ _ e2]
theorem pend_stand {n i who : Nat} {s : KS} {w1 : Nat × Nat → List Bool} (hi : i < n) : pendN n (askK i (addK i who { s with way := w1 })) = pendN n s + if who = i then 1 else 0 := by
  have e : (askK i (addK i who { s with way := w1 })).row = upd s.row i (s.row i ++ [who]) := by unfold askK; split <;> rfl
  have q := sumN_put (n := n) (i := i) (g := fun y => (s.row y).count y) (h := fun y => (upd s.row i (s.row i ++ [who]) y).count y) hi (fun j _ hj => by simp only [upd_ne _ _ hj])
  simp only [upd_same, List.count_append] at q
  have q2 : List.count i [who] = if who = i then 1 else 0 := by
    by_cases e : who = i
    · subst e; simp
    · rw [if_neg e]; exact List.count_eq_zero.2 (by simp; omega)
  rw [q2] at q
  unfold pendN
  rw [e]
  omega
/-- The holder goes in. -/
theorem RJ.enter {n loc src : Nat} {s : KS} {l : List Nat} (h : RJ n s loc src) (hh : s.has = loc) (hw : s.row loc = loc :: l) :
    RJ n { s with row := upd s.row loc l, inn := loc } loc src ∧ outN n { s with row := upd s.row loc l, inn := loc } loc = outN n s loc ∧ pendN n { s with row := upd s.row loc l, inn := loc } + 1 = pendN n s := by
  refine ⟨⟨h.lt, h.pt, fun j x hx => ?_, fun j => ?_, ?_, .inr ⟨rfl, hh⟩, fun y x hm hn => ?_, fun y hy hl => ?_, h.tok, h.wy, h.rch⟩, ?_, ?_⟩
  · change x ∈ upd s.row loc l j at hx
    rw [upd_apply] at hx
    split at hx
    · exact h.row loc x (by rw [hw]; exact List.mem_cons_of_mem _ hx)
    · exact h.row j x hx
  · show (upd s.row loc l j).count j ≤ 1
    rw [upd_apply]; split
    · rename_i e; subst e
      have := h.one j; rw [hw] at this
      exact Nat.le_trans (List.Sublist.count_le _ (List.sublist_cons_self _ _)) this
    · exact h.one j
  · rcases h.hs with q | ⟨q1, _⟩
    · exact .inl q
    · rw [hh] at q1; omega
  · change y ∈ upd s.row loc l x at hm
    rw [upd_apply] at hm
    split at hm
    · rename_i e; subst e
      exact h.nb y x (by rw [hw]; exact List.mem_cons_of_mem _ hm) hn
    · exact h.nb y x hm hn
  · have q := h.ask y hy hl
    show nF (s.way (y, s.pt y)) + (upd s.row loc l (s.pt y)).count y = if upd s.row loc l y = [] then 0 else 1
    rw [upd_ne _ _ hl, ← q]
    congr 1
    rw [upd_apply]; split
    · rename_i e; rw [e, hw, List.count_cons_of_ne (by omega)]
    · rfl
  · exact sumN_congr fun y _ => by
      by_cases e : y = loc
      · rw [if_neg (fun h => h.1 e), if_neg (fun h => h.1 e)]
      · simp only [upd_ne _ _ e]
  · have q := sumN_put (n := n) (i := loc) (g := fun y => (s.row y).count y) (h := fun y => (upd s.row loc l y).count y) h.lt (fun j _ hj => by simp only [upd_ne _ _ hj])
    simp only [upd_same, hw, List.count_cons_self] at q
    show sumN n (fun y => (upd s.row loc l y).count y) + 1 = pendN n s
    unfold pendN
    omega
def tokT (loc to : Nat) (l : List Nat) (s : KS) : KS := if l = [] then passK loc to l s else sendK loc to false (passK loc to l s)
/-- The holder passes it on. -/
theorem RJ.pass {n loc src to : Nat} {s : KS} {l : List Nat} (h : RJ n s loc src) (hh : s.has = loc) (hi : s.inn = -1) (hw : s.row loc = to :: l) (hto : to ≠ loc) :
    RJ n (tokT loc to l s) to loc ∧ wayLen n (tokT loc to l s).way + outN n s loc = wayLen n s.way + outN n (tokT loc to l s) to + 2 ∧ pendN n (tokT loc to l s) = pendN n s := by
  have hmem : to ∈ s.row loc := by rw [hw]; exact List.mem_cons_self
  have htn := h.row loc to hmem
  obtain ⟨-, hpto⟩ := h.nb to loc hmem hto
  have hbusy := h.busy hmem hto
  have hask := h.ask to htn hto
  rw [hpto, if_neg hbusy, hw, List.count_cons_self] at hask
  have hnl : to ∉ l := List.count_eq_zero.1 (by omega)
  have hnw : ∀ x, s.way (loc, x) = [] := fun x => Classical.byContradiction fun hne => (h.wy loc x hne).2.1 rfl
  have hh1 : s.has ≠ -1 := by rw [hh]; omega
  have htok0 : ∀ y x, nT (s.way (y, x)) = 0 := fun y x => by rw [h.tok, if_neg (fun e => hh1 e.1)]
  have htow : ∀ x, s.way (to, x) = [] := fun x => by
    by_cases e : s.way (to, x) = []
    · exact e
    · have := (h.wy to x e).2.2
      rw [hpto] at this
      subst this
      exact nil_of (by omega) (htok0 _ _)
  have hst : tokT loc to l s = ⟨upd s.pt loc to, upd s.row loc l, -1, s.inn, qput s.way (loc, to) (true :: if l = [] then [] else [false])⟩ := by
    unfold tokT
    split
    · rename_i e; subst e
      unfold passK sendK
      simp only [hnw, List.nil_append]
    · rename_i e
      unfold passK sendK
      simp only [hnw, List.nil_append, qput_same]
      congr 1
      funext p
      unfold qput
      split <;> rfl
  rw [hst]
  have hwy' : ∀ y x, qput s.way (loc, to) (true :: if l = [] then [] else [false]) (y, x) = if y = loc ∧ x = to then (true :: if l = [] then [] else [false]) else s.way (y, x) := fun y x => by
    unfold qput
    by_cases e : y = loc ∧ x = to
    · rw [if_pos e, if_pos (by rw [e.1, e.2])]
    · rw [if_neg e, if_neg (fun e2 => e (by simpa using e2))]
  refine ⟨⟨htn, fun i hi => ?_, fun j x hx => ?_, fun j => ?_, ?_, .inl hi, fun y x hm hn => ?_, fun y hy hl => ?_, fun y x => ?_, fun y x hne => ?_, fun i hi => (h.rch i hi).turn hto⟩, ?_, ?_⟩
  · show upd s.pt loc to i < n
    rw [upd_apply]; split
    · exact htn
    · exact h.pt i hi
  · change x ∈ upd s.row loc l j at hx
    rw [upd_apply] at hx
    split at hx
    · exact h.row loc x (by rw [hw]; exact List.mem_cons_of_mem _ hx)
    · exact h.row j x hx
  · show (upd s.row loc l j).count j ≤ 1
    rw [upd_apply]; split
    · rename_i e; subst e
      have := h.one j; rw [hw] at this
      exact Nat.le_trans (List.Sublist.count_le _ (List.sublist_cons_self _ _)) this
    · exact h.one j
  · refine .inr ⟨rfl, Ne.symm hto, h.lt, ?_, ?_⟩
    · show upd s.pt loc to loc = to
      exact upd_same ..
    · show upd s.row loc l to ≠ []
      rw [upd_ne _ _ hto]; exact hbusy
  · change y ∈ upd s.row loc l x at hm
    show y ≠ to ∧ upd s.pt loc to y = x
    rw [upd_apply] at hm
    split at hm
    · rename_i e; subst e
      obtain ⟨q1, q2⟩ := h.nb y x (by rw [hw]; exact List.mem_cons_of_mem _ hm) hn
      exact ⟨fun e => hnl (by rw [← e]; exact hm), by rw [upd_ne _ _ q1]; exact q2⟩
    · rename_i e
      obtain ⟨q1, q2⟩ := h.nb y x hm hn
      exact ⟨fun e2 => e (by rw [← q2, e2]; exact hpto), by rw [upd_ne _ _ q1]; exact q2⟩
  · show nF (qput s.way (loc, to) _ (y, upd s.pt loc to y)) + (upd s.row loc l (upd s.pt loc to y)).count y = if upd s.row loc l y = [] then 0 else 1
    rw [hwy']
    by_cases e : y = loc
    · subst e
      rw [upd_same, upd_same, if_pos ⟨rfl, rfl⟩, upd_ne _ _ hto]
      have : (s.row to).count y = 0 := List.count_eq_zero.2 fun hm => (h.nb y to hm hl).1 rfl
      rw [this]
      by_cases e2 : l = []
      · rw [if_pos e2, if_pos e2]; rfl
      · rw [if_neg e2, if_neg e2]; rfl
    · rw [upd_ne _ _ e, upd_ne _ _ e, if_neg (fun h => e h.1), ← h.ask y hy e]
      congr 1
      rw [upd_apply]; split
      · rename_i e2; rw [e2, hw, List.count_cons_of_ne (fun e3 => hl e3.symm)]
      · rfl
  · show nT (qput s.way (loc, to) _ (y, x)) = _
    rw [hwy']
    by_cases e : y = loc ∧ x = to
    · have q : nT (true :: if l = [] then [] else [false]) = 1 := by split <;> rfl
      rw [if_pos e, q]
      exact (if_pos ⟨rfl, e⟩).symm
    · rw [if_neg e, htok0]
      exact (if_neg (fun h => e h.2)).symm
  · change qput s.way (loc, to) _ (y, x) ≠ [] at hne
    show y < n ∧ y ≠ to ∧ upd s.pt loc to y = x
    rw [hwy'] at hne
    by_cases e : y = loc ∧ x = to
    · rw [e.1, e.2]
      exact ⟨h.lt, Ne.symm hto, upd_same ..⟩
    · rw [if_neg e] at hne
      obtain ⟨q1, q2, q3⟩ := h.wy y x hne
      exact ⟨q1, fun e2 => hne (by rw [e2]; exact htow x), by rw [upd_ne _ _ q2]; exact q3⟩
  · have q1 := wayQ_put (n := n) (q := s.way) (p := (loc, to)) (l := true :: if l = [] then [] else [false]) h.lt htn
    have q2 := sumN_put (n := n) (i := loc) (g := fun y => if y ≠ loc ∧ s.row y ≠ [] then 1 else 0) (h := fun y => if y = loc then (if l = [] then 0 else 1) else if s.row y ≠ [] then 1 else 0) h.lt (fun j _ hj => by
      by_cases e : s.row j = []
      · simp [hj, e]
      · simp [hj, e])
    have q3 := sumN_put (n := n) (i := to) (g := fun y => if y = loc then (if l = [] then 0 else 1) else if s.row y ≠ [] then 1 else 0) (h := fun y => if y ≠ to ∧ upd s.row loc l y ≠ [] then 1 else 0) htn (fun j _ hj => by
      by_cases e : j = loc
      · subst e
        rw [if_pos rfl, upd_same]
        by_cases e2 : l = []
        · simp [e2]
        · simp [e2, hj]
      · rw [if_neg e, upd_ne _ _ e]
        by_cases e2 : s.row j = []
        · simp [e2]
        · simp [e2, hj])
    simp only [if_true, hto, if_false, ne_eq, not_true, false_and, hbusy, not_false_eq_true, hnw, List.length_nil, List.length_cons] at q1 q2 q3
    show wayLen n (qput s.way (loc, to) _) + outN n s loc = wayLen n s.way + sumN n (fun y => if y ≠ to ∧ upd s.row loc l y ≠ [] then 1 else 0) + 2
    have q4 : (if l = [] then ([] : List Bool) else [false]).length = if l = [] then 0 else 1 := by split <;> rfl
    rw [q4] at q1
    simp only [outN, ne_eq]
    generalize (if l = [] then 0 else 1) = k at *
    omega
  · have q := sumN_put (n := n) (i := loc) (g := fun y => (s.row y).count y) (h := fun y => (upd s.row loc l y).count y) h.lt (fun j _ hj => by simp only [upd_ne _ _ hj])
    simp only [upd_same, hw, List.count_cons_of_ne hto] at q
    show sumN n (fun y => (upd s.row loc l y).count y) = pendN n s
    unfold pendN
    omega
/-- The token comes. -/
theorem RJ.arrive {n loc src f t : Nat} {l : List Bool} {s : KS} (h : RJ n s loc src) (hw : s.way (f, t) = true :: l) :
    t = loc ∧ f = src ∧ s.has = -1 ∧ RJ n { popK f t l s with has := t, pt := upd s.pt t t } loc loc ∧ wayLen n (qput s.way (f, t) l) + 1 = wayLen n s.way := by
  have ht := h.tok f t
  rw [hw, nT_cons, if_pos rfl] at ht
  have hc : s.has = -1 ∧ f = src ∧ t = loc := Classical.byContradiction fun hc => by rw [if_neg hc] at ht; omega
  rw [if_pos hc] at ht
  obtain ⟨h1, h2, h3⟩ := hc
  rcases h.hs with ⟨q1, _⟩ | ⟨_, q2, q3, q4, q5⟩
  · rw [h1] at q1; omega
  have hq := wayQ_put (n := n) (q := s.way) (p := (f, t)) (l := l) (by rw [h2]; exact q3) (by rw [h3]; exact h.lt)
  rw [hw] at hq
  refine ⟨h3, h2, h1, ?_, by simp only [List.length_cons] at hq; omega⟩
  subst h2 h3
  have hwy' : ∀ y x, qput s.way (f, t) l (y, x) = if y = f ∧ x = t then l else s.way (y, x) := fun y x => by
    unfold qput
    by_cases e : y = f ∧ x = t
    · rw [if_pos e, if_pos (by rw [e.1, e.2])]
    · rw [if_neg e, if_neg (fun e2 => e (by simpa using e2))]
  refine ⟨h.lt, fun i hi => ?_, h.row, h.one, .inl ⟨rfl, upd_same ..⟩, .inl ?_, fun y x hm hn => ?_, fun y hy hl => ?_, fun y x => ?_, fun y x hne => ?_, fun i hi => (h.rch i hi).congr fun j hj => upd_ne _ _ hj⟩
  · show upd s.pt t t i < n
    rw [upd_apply]; split
    · exact h.lt
    · exact h.pt i hi
  · rcases h.inn with q | ⟨_, q⟩
    · exact q
    · rw [h1] at q; omega
  · obtain ⟨r1, r2⟩ := h.nb y x hm hn
    exact ⟨r1, by show upd s.pt t t y = x; rw [upd_ne _ _ r1]; exact r2⟩
  · show nF (qput s.way (f, t) l (y, upd s.pt t t y)) + (s.row (upd s.pt t t y)).count y = _
    rw [upd_ne _ _ hl, hwy']
    have q := h.ask y hy hl
    by_cases e : y = f ∧ s.pt y = t
    · rw [if_pos e]
      rw [e.2, e.1, hw, nF_cons, if_neg (by decide)] at q
      rw [e.2, e.1]
      exact q
    · rw [if_neg e]; exact q
  · show nT (qput s.way (f, t) l (y, x)) = _
    have hne : ((t : Nat) : Int) ≠ -1 := by omega
    refine Eq.trans ?_ (if_neg (fun e => hne e.1)).symm
    rw [hwy']
    by_cases e : y = f ∧ x = t
    · rw [if_pos e]; omega
    · rw [if_neg e, h.tok, if_neg (fun e2 => e e2.2)]
  · change qput s.way (f, t) l (y, x) ≠ [] at hne
    have hne2 : s.way (y, x) ≠ [] := by
      rw [hwy'] at hne
      by_cases e : y = f ∧ x = t
      · rw [e.1, e.2, hw]; simp
      · rw [if_neg e] at hne; exact hne
    obtain ⟨r1, r2, r3⟩ := h.wy y x hne2
    exact ⟨r1, r2, by show upd s.pt t t y = x; rw [upd_ne _ _ r2]; exact r3⟩
end Go.Proofs.Ytihkbkbbllmliaa
