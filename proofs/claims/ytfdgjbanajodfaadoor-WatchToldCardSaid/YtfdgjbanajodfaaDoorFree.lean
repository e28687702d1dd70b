/- A region that draws its order: whatever order is picked, each operation of its head yields what is said of it, and that stays true; then the tail in its forced order. -/
import Derived.Test.YtfdgjbanajodfaaDoorHeld
import Derived.Test.YtfdgjbanajodfaaDoorHeap
set_option linter.unusedVariables false
set_option linter.unusedSimpArgs false
namespace Go.Proofs.YtfdgjbanajodfaaDoor
open Go.RowKit

/-- The operation yields a value of which Φ is true. -/
def Does (P : Program) (o : Oper) (a : Act) (w : World) (Φ : Value → World → Prop) : Prop :=
  ∀ (K : Act → World → Prop) (Q : Exit → Act → World → Prop), (∀ v w', Φ v w' → K (a.put o.dst v) w') → o.wp P a w K Q
section
variable {P : Program} {o : Oper} {a : Act} {w w' : World} {Φ Ψ : Value → World → Prop}
theorem does_run {v : Value} (h : (execOp a.eval o).run P w = .ok (.value v) w') (hΦ : Φ v w') : Does P o a w Φ := fun K Q hK => by
  unfold Oper.wp
  rw [h]
  exact hK _ _ hΦ
theorem does_call {f : FuncId} {args : Array Value} (h : (execOp a.eval o).run P w = .ok (.enter f args) w) (hc : Calls P f args w fun e w' => ∃ v, e = .returned v ∧ Φ v w') : Does P o a w Φ := fun K Q hK => by
  unfold Oper.wp
  rw [h]
  refine Calls.mono hc fun e w' ⟨v, he, hv⟩ => ?_
  subst he
  exact hK _ _ hv
theorem Does.mono (h : Does P o a w Φ) (hh : ∀ v w', Φ v w' → Ψ v w') : Does P o a w Ψ := fun K Q hK => h K Q fun v w' hv => hK v w' (hh v w' hv)
end

def yset (y : Nat → Value) (i : Nat) (v : Value) : Nat → Value := fun k => if k = i then v else y k
def lset (L : Nat → Bool) (i : Nat) : Nat → Bool := fun k => if k = i then true else L k
def cntN (f : Nat → Bool) : Nat → Nat
  | 0 => 0
  | n + 1 => cntN f n + (!f n).toNat
theorem cntN_lset {f : Nat → Bool} {i : Nat} (hf : f i = false) : ∀ n, cntN (lset f i) n + (if i < n then 1 else 0) = cntN f n := by
  intro n
  induction n with
  | zero => rfl
  | succ n ih =>
    rw [cntN, cntN, ← ih]
    by_cases e : n = i
    · subst e
      have h1 : ¬ n < n := by omega
      have h2 : n < n + 1 := by omega
      rw [if_neg h1, if_pos h2, hf]
      simp [lset]
    · have h3 : lset f i n = f n := by simp [lset, e]
      have h4 : (if i < n + 1 then 1 else 0) = if i < n then 1 else 0 := by
        by_cases h : i < n
        · rw [if_pos h, if_pos (by omega)]
        · rw [if_neg h, if_neg (by omega)]
      rw [h3, h4]
      omega

section
variable {P : Program} {ops : Array Oper} {md : Region.Mode} {Q : Exit → Act → World → Prop}

/-- The tail's forced order. -/
theorem chain_any : ∀ (T : List Nat) (l : List Oper) (listed : Array Bool) (a : Act) (w : World), T.map (ops[·]?) = l.map some → chainOk md ops T listed = true → wpList P ops Q l a w → wpAny P md ops Q T.length listed a w := by
  intro T
  induction T with
  | nil =>
    intro l listed a w hl hc h
    obtain rfl : l = [] := by simpa using hl
    exact ⟨by simpa [chainOk] using hc, h⟩
  | cons k T ih =>
    intro l listed a w hl hc h
    obtain ⟨o, l', rfl⟩ : ∃ o l', l = o :: l' := by
      cases l with
      | nil => simp at hl
      | cons o l' => exact ⟨o, l', rfl⟩
    simp only [List.map_cons, List.cons.injEq] at hl
    obtain ⟨ho, hl'⟩ := hl
    simp only [chainOk, Bool.and_eq_true, decide_eq_true_eq] at hc
    refine ⟨fun h0 => (by rw [hc.1] at h0; cases h0), fun i hi => ?_⟩
    rw [hc.1] at hi
    obtain rfl : i = k := by simpa using hi
    unfold wpOp
    simp only [ho]
    unfold wpList at h
    split
    · rename_i hw
      rw [if_pos hw] at h
      exact h.imp (Oper.wp_mono fun a' w' h' => ih l' _ a' w' hl' hc.2 h') id
    · rename_i hw
      rw [if_neg hw] at h
      exact ih l' _ _ _ hl' hc.2 h

/-- Does i wait for j, by some others? -/
def ancB (md : Region.Mode) (ops : Array Oper) : Nat → Nat → Nat → Bool
  | 0, _, _ => false
  | f + 1, i, j => match ops[i]? with
    | some o => o.after.toList.any fun e => Region.binds md e && (e.on == j || ancB md ops f e.on j)
    | none => false
def Closed (md : Region.Mode) (ops : Array Oper) (listed : Array Bool) : Prop := ∀ i o, ops[i]? = some o → listed.getD i false = true → ∀ e ∈ o.after, Region.binds md e = true → listed.getD e.on false = true
theorem anc_listed {listed : Array Bool} (hc : Closed md ops listed) : ∀ f i j, ancB md ops f i j = true → (∀ o, ops[i]? = some o → ∀ e ∈ o.after, Region.binds md e = true → listed.getD e.on false = true) → listed.getD j false = true := by
  intro f
  induction f with
  | zero => intro i j h; cases h
  | succ f ih =>
    intro i j h hp
    rw [ancB] at h
    split at h
    · rename_i o ho
      obtain ⟨e, he, hb⟩ := List.any_eq_true.1 h
      simp only [Bool.and_eq_true, Bool.or_eq_true, beq_iff_eq] at hb
      have hl := hp o ho e (by simpa using he) hb.1
      rcases hb.2 with h2 | h2
      · rw [← h2]; exact hl
      · exact ih e.on j h2 fun o' ho' e' he' hb' => hc e.on o' ho' hl e' he' hb'
    · cases h

def dstOf (ops : Array Oper) (i : Nat) : Nat := match ops[i]? with | some o => o.dst.getD 0 | none => 0
def maskOf (n : Nat) (H : List Nat) : Array Bool := ((List.range n).map fun i => H.contains i).toArray
/-- An operation of the head: unguarded, yields, waits for some of the head ahead of it alone. -/
def headB (md : Region.Mode) (ops : Array Oper) (H : List Nat) (i : Nat) : Bool := match ops[i]? with
  | some o => o.guard.isNone && o.dst.isSome && o.after.toList.all (fun e => !Region.binds md e || (decide (e.on < i) && H.contains e.on))
  | none => false
def freeB (md : Region.Mode) (ops : Array Oper) (H T : List Nat) : Bool :=
  (List.range ops.size).all (fun i => H.contains i != T.contains i) && (H.all (headB md ops H) && (T.all (fun t => H.all fun i => ancB md ops 8 t i) &&
    (chainOk md ops T (maskOf ops.size H) && decide (cntN (fun k => (maskOf ops.size H).getD k false) ops.size = T.length))))

theorem headB_spec {H : List Nat} {i : Nat} (h : headB md ops H i = true) : ∃ o, ops[i]? = some o ∧ i < ops.size ∧ o.guard = none ∧ o.dst = some (dstOf ops i) ∧ ∀ e ∈ o.after, Region.binds md e = true → e.on < i ∧ e.on ∈ H := by
  unfold headB at h
  split at h
  · rename_i o ho
    simp only [Bool.and_eq_true, List.all_eq_true, Bool.or_eq_true, Bool.not_eq_true', decide_eq_true_eq] at h
    obtain ⟨⟨h1, h2⟩, h3⟩ := h
    refine ⟨o, ho, (Array.getElem?_eq_some_iff.1 ho).1, by simpa using h1, ?_, fun e he hb => ?_⟩
    · obtain ⟨d, hd⟩ := Option.isSome_iff_exists.1 h2
      simp [dstOf, ho, hd]
    · rcases h3 e (by simpa using he) with h4 | h4
      · rw [hb] at h4; cases h4
      · exact ⟨h4.1, by simpa using h4.2⟩
  · cases h

/-- What holds between the operations. -/
structure InvA (ops : Array Oper) (a0 : Act) (H : List Nat) (G : (Nat → Bool) → (Nat → Value) → World → Prop) (L : Nat → Bool) (a : Act) (w : World) : Prop where
  dfr : a.defers = a0.defers
  sz : a.tmps.size = a0.tmps.size
  old : ∀ k, (∀ i ∈ H, dstOf ops i ≠ k) → a.tmps[k]? = a0.tmps[k]?
  fact : G L (fun i => a.tmps.getD (dstOf ops i) undef) w

theorem fold_get (a : Act) (d : Nat → Nat) : ∀ (H : List Nat) (b : Act), (∀ i ∈ H, d i < b.tmps.size) →
    (H.foldl (fun b i => b.put (some (d i)) (a.tmps.getD (d i) undef)) b).defers = b.defers ∧ (H.foldl (fun b i => b.put (some (d i)) (a.tmps.getD (d i) undef)) b).tmps.size = b.tmps.size ∧
    ∀ k, (H.foldl (fun b i => b.put (some (d i)) (a.tmps.getD (d i) undef)) b).tmps[k]? = if k ∈ H.map d then some (a.tmps.getD k undef) else b.tmps[k]? := by
  intro H
  induction H with
  | nil => intro b _; exact ⟨rfl, rfl, fun k => by simp⟩
  | cons i H ih =>
    intro b hb
    have hs : (b.put (some (d i)) (a.tmps.getD (d i) undef)).tmps.size = b.tmps.size := by
      show (b.tmps.setIfInBounds _ _).size = _
      rw [Array.size_setIfInBounds]
    obtain ⟨h1, h2, h3⟩ := ih (b.put (some (d i)) (a.tmps.getD (d i) undef)) fun j hj => by rw [hs]; exact hb j (List.mem_cons_of_mem _ hj)
    refine ⟨h1, h2.trans hs, fun k => ?_⟩
    rw [List.foldl_cons, h3 k]
    have hi := hb i (List.mem_cons_self ..)
    have hg : (b.put (some (d i)) (a.tmps.getD (d i) undef)).tmps[k]? = if k = d i then some (a.tmps.getD (d i) undef) else b.tmps[k]? := by
      show (b.tmps.setIfInBounds _ _)[k]? = _
      rw [Array.getElem?_setIfInBounds]
      by_cases e : d i = k
      · subst e; simp [hi]
      · rw [if_neg e, if_neg (fun h => e h.symm)]
    rw [hg, List.map_cons]
    by_cases h4 : k ∈ H.map d
    · rw [if_pos h4, if_pos (List.mem_cons_of_mem _ h4)]
    · rw [if_neg h4]
      by_cases h5 : k = d i
      · rw [if_pos h5, if_pos (by rw [h5]; exact List.mem_cons_self ..), h5]
      · rw [if_neg h5, if_neg (fun h => (List.mem_cons.1 h).elim h5 h4)]

theorem act_ext {a b : Act} (h1 : a.tmps = b.tmps) (h2 : a.defers = b.defers) : a = b := by
  cases a
  cases b
  simp only at h1 h2
  rw [h1, h2]
theorem inj_of_nodup {d : Nat → Nat} : ∀ {H : List Nat}, (H.map d).Nodup → ∀ {i j : Nat}, i ∈ H → j ∈ H → d i = d j → i = j := by
  intro H
  induction H with
  | nil => intro _ i j hi; cases hi
  | cons x H ih =>
    intro h i j hi hj e
    rw [List.map_cons, List.nodup_cons] at h
    rcases List.mem_cons.1 hi with h1 | h1 <;> rcases List.mem_cons.1 hj with h2 | h2
    · rw [h1, h2]
    · exact absurd (List.mem_map.2 ⟨j, h2, by rw [← e, h1]⟩) h.1
    · exact absurd (List.mem_map.2 ⟨i, h1, by rw [e, h2]⟩) h.1
    · exact ih h.2 h1 h2 e
theorem listed_set {listed : Array Bool} {i : Nat} (hi : i < listed.size) : (fun k => (listed.setIfInBounds i true).getD k false) = lset (fun k => listed.getD k false) i := by
  funext k
  unfold lset
  by_cases e : k = i
  · subst e; simp [hi]
  · rw [if_neg e, getD_set_ne false (Ne.symm e)]
theorem free_any (H T : List Nat) (lT : List Oper) (a0 : Act) (G : (Nat → Bool) → (Nat → Value) → World → Prop) (hG : ∀ L y y' w, (∀ i ∈ H, y i = y' i) → G L y w → G L y' w) (hB : freeB md ops H T = true) (hnd : (H.map (dstOf ops)).Nodup) (hsz : ∀ i ∈ H, dstOf ops i < a0.tmps.size) (hT : T.map (ops[·]?) = lT.map some)
    (hstep : ∀ i ∈ H, ∀ o, ops[i]? = some o → ∀ L a w, L i = false → (∀ e ∈ o.after, Region.binds md e = true → L e.on = true ∧ e.on ∈ H) → InvA ops a0 H G L a w →
      Does P o a w fun v w' => G (lset L i) (yset (fun j => a.tmps.getD (dstOf ops j) undef) i v) w')
    (hend : ∀ (y : Nat → Value) (w : World), G (fun k => (maskOf ops.size H).getD k false) y w → wpList P ops Q lT (H.foldl (fun b i => b.put (some (dstOf ops i)) (y i)) a0) w) :
    ∀ (fuel : Nat) (listed : Array Bool) (a : Act) (w : World), listed.size = ops.size → cntN (fun k => listed.getD k false) ops.size = fuel → (∀ t, t ∉ H → listed.getD t false = false) → Closed md ops listed →
      InvA ops a0 H G (fun k => listed.getD k false) a w → wpAny P md ops Q fuel listed a w := by
  simp only [freeB, Bool.and_eq_true, List.all_eq_true, decide_eq_true_eq] at hB
  obtain ⟨hp, hH, hA, hc, hcnt⟩ := hB
  intro fuel
  induction fuel with
  | zero =>
    intro listed a w hls hf hno hcl hI
    have hall : ∀ i ∈ H, listed.getD i false = true := by
      intro i hi
      obtain ⟨_, _, hlt, _⟩ := headB_spec (hH i hi)
      have : ∀ n (f : Nat → Bool), cntN f n = 0 → ∀ i, i < n → f i = true := by
        intro n f
        induction n with
        | zero => intro _ i h; omega
        | succ n ih =>
          intro h i hi
          rw [cntN] at h
          rcases Nat.lt_succ_iff_lt_or_eq.1 hi with h1 | h1
          · exact ih (by omega) i h1
          · subst h1
            cases hf : f i
            · rw [hf] at h; simp at h
            · rfl
      exact this _ _ hf i hlt
    have hm : listed = maskOf ops.size H := by
      apply Array.ext
      · simp [maskOf, hls]
      · intro k h1 h2
        by_cases hk : k ∈ H
        · have := hall k hk
          simp [h1] at this
          simp [maskOf, hk, this]
        · have := hno k hk
          simp [h1] at this
          simp [maskOf, hk, this]
    have hT0 : T.length = 0 := by rw [← hcnt, ← hm]; exact hf
    obtain ⟨f1, f2, f3⟩ := fold_get a (dstOf ops) H a0 hsz
    have ha : a = H.foldl (fun b i => b.put (some (dstOf ops i)) (a.tmps.getD (dstOf ops i) undef)) a0 := by
      have e1 : a.tmps = (H.foldl (fun b i => b.put (some (dstOf ops i)) (a.tmps.getD (dstOf ops i) undef)) a0).tmps := by
        apply Array.ext_getElem?
        intro k
        rw [f3 k]
        split
        · rename_i hk
          obtain ⟨i, hi, hik⟩ := List.mem_map.1 hk
          have hlt : k < a.tmps.size := by rw [hI.sz, ← hik]; exact hsz i hi
          rw [Array.getD_eq_getD_getElem?, Array.getElem?_eq_getElem hlt]
          rfl
        · rename_i hk
          exact hI.old k fun i hi e => hk (List.mem_map.2 ⟨i, hi, e⟩)
      exact act_ext e1 (hI.dfr.trans f1.symm)
    have := hend (fun i => a.tmps.getD (dstOf ops i) undef) w (by rw [← hm]; exact hI.fact)
    rw [← ha] at this
    have h2 := chain_any (md := md) T lT listed a w hT (by rw [hm]; exact hc) this
    rw [hT0] at h2
    exact h2
  | succ fuel ih =>
    intro listed a w hls hf hno hcl hI
    by_cases hall : ∀ i ∈ H, listed.getD i false = true
    · have hm : listed = maskOf ops.size H := by
        apply Array.ext
        · simp [maskOf, hls]
        · intro k h1 h2
          by_cases hk : k ∈ H
          · have := hall k hk
            simp [h1] at this
            simp [maskOf, hk, this]
          · have := hno k hk
            simp [h1] at this
            simp [maskOf, hk, this]
      have hT0 : T.length = fuel + 1 := by rw [← hcnt, ← hm]; exact hf
      obtain ⟨f1, f2, f3⟩ := fold_get a (dstOf ops) H a0 hsz
      have ha : a = H.foldl (fun b i => b.put (some (dstOf ops i)) (a.tmps.getD (dstOf ops i) undef)) a0 := by
        have e1 : a.tmps = (H.foldl (fun b i => b.put (some (dstOf ops i)) (a.tmps.getD (dstOf ops i) undef)) a0).tmps := by
          apply Array.ext_getElem?
          intro k
          rw [f3 k]
          split
          · rename_i hk
            obtain ⟨i, hi, hik⟩ := List.mem_map.1 hk
            have hlt : k < a.tmps.size := by rw [hI.sz, ← hik]; exact hsz i hi
            rw [Array.getD_eq_getD_getElem?, Array.getElem?_eq_getElem hlt]
            rfl
          · rename_i hk
            exact hI.old k fun i hi e => hk (List.mem_map.2 ⟨i, hi, e⟩)
        exact act_ext e1 (hI.dfr.trans f1.symm)
      have := hend (fun i => a.tmps.getD (dstOf ops i) undef) w (by rw [← hm]; exact hI.fact)
      rw [← ha] at this
      have h2 := chain_any (md := md) T lT listed a w hT (by rw [hm]; exact hc) this
      rw [hT0] at h2
      exact h2
    · have hex : ∃ i ∈ H, listed.getD i false = false := by
        apply Classical.byContradiction
        intro h
        exact hall fun i hi => by
          cases hb : listed.getD i false
          · exact absurd ⟨i, hi, hb⟩ h
          · rfl
      refine ⟨fun h0 => ?_, fun i hi => ?_⟩
      · exfalso
        have key : ∀ n, ∀ i ∈ H, listed.getD i false = false → i = n → ∃ i ∈ H, listed.getD i false = false ∧ ∀ j ∈ H, j < i → listed.getD j false = true := by
          intro n
          induction n using Nat.strongRecOn with
          | _ n ihn =>
            intro i hi hu e
            by_cases h : ∀ j ∈ H, j < i → listed.getD j false = true
            · exact ⟨i, hi, hu, h⟩
            · have : ∃ j ∈ H, j < i ∧ listed.getD j false = false := by
                apply Classical.byContradiction
                intro hn
                exact h fun j hj hlt => by
                  cases hb : listed.getD j false
                  · exact absurd ⟨j, hj, hlt, hb⟩ hn
                  · rfl
              obtain ⟨j, hj, hlt, hb⟩ := this
              exact ihn j (by omega) j hj hb rfl
        obtain ⟨i0, hi0, hu0⟩ := hex
        obtain ⟨i, hi, hu, hlow⟩ := key i0 i0 hi0 hu0 rfl
        obtain ⟨o, ho, hlt, _, _, haft⟩ := headB_spec (hH i hi)
        have : i ∈ Region.ready md ops listed := mem_ready.2 ⟨getD_in (by rw [hls]; exact hlt) hu, o, ho, fun e he hb => hlow _ (haft e he hb).2 (haft e he hb).1⟩
        rw [h0] at this
        cases this
      · obtain ⟨hun, o, ho, hpre⟩ := mem_ready.1 hi
        have hun' := getD_both hun
        have hlt : i < ops.size := (Array.getElem?_eq_some_iff.1 ho).1
        have hiH : i ∈ H := by
          apply Classical.byContradiction
          intro hne
          have h1 := hp i (List.mem_range.2 hlt)
          have hc0 : H.contains i = false := by simpa using hne
          rw [hc0] at h1
          have hti : i ∈ T := by simpa using h1
          obtain ⟨j, hj, hu⟩ := hex
          have := anc_listed hcl 8 i j (hA i hti j hj) (fun o' ho' e he hb => by
            rw [ho] at ho'; injection ho' with ho'; subst ho'; exact hpre e he hb)
          rw [hu] at this
          cases this
        obtain ⟨o', ho', _, hg, hd, haft⟩ := headB_spec (hH i hiH)
        obtain rfl : o' = o := by rw [ho] at ho'; injection ho' with h; exact h.symm
        have hL := listed_set (listed := listed) (i := i) (by rw [hls]; exact hlt)
        unfold wpOp
        simp only [ho]
        have hw : Region.wanted o' (yielded ops a.tmps) = true := by simp [Region.wanted, hg]
        rw [if_pos hw]
        refine .inl (hstep i hiH o' ho _ a w hun' (fun e he hb => ⟨hpre e he hb, (haft e he hb).2⟩) hI _ _ fun v w' hJ => ?_)
        refine ih _ _ _ (by simp [hls]) ?_ (fun t ht => ?_) ?_ ?_
        · have := cntN_lset (f := fun k => listed.getD k false) hun' ops.size
          rw [if_pos hlt] at this
          rw [hL]
          omega
        · rw [getD_set_ne false (fun e => ht (by rw [← e]; exact hiH))]
          exact hno t ht
        · intro j oj hoj hj e he hb
          by_cases hji : j = i
          · subst hji
            rw [ho] at hoj
            injection hoj with hoj
            subst hoj
            exact getD_set_true (hpre e he hb)
          · rw [getD_set_ne false (Ne.symm hji)] at hj
            exact getD_set_true (hcl j oj hoj hj e he hb)
        · rw [hL]
          have hdlt : dstOf ops i < a.tmps.size := by rw [hI.sz]; exact hsz i hiH
          have hget : ∀ k, (a.put o'.dst v).tmps[k]? = if k = dstOf ops i then some v else a.tmps[k]? := by
            intro k
            rw [hd]
            show (a.tmps.setIfInBounds _ _)[k]? = _
            rw [Array.getElem?_setIfInBounds]
            by_cases e : dstOf ops i = k
            · subst e; simp [hdlt]
            · rw [if_neg e, if_neg (fun h => e h.symm)]
          refine ⟨?_, ?_, fun k hk2 => ?_, ?_⟩
          · rw [hd]; exact hI.dfr
          · rw [hd]
            show (a.tmps.setIfInBounds _ _).size = _
            rw [Array.size_setIfInBounds]; exact hI.sz
          · rw [hget, if_neg (fun e => hk2 i hiH e.symm)]
            exact hI.old k hk2
          · refine hG _ _ _ _ (fun j hj => ?_) hJ
            show yset _ i v j = _
            unfold yset
            by_cases hji : j = i
            · subst hji
              rw [if_pos rfl, Array.getD_eq_getD_getElem?, hget, if_pos rfl]
              rfl
            · have hne : dstOf ops j ≠ dstOf ops i := fun e => hji (inj_of_nodup hnd hj hiH e)
              rw [if_neg hji]
              show a.tmps.getD (dstOf ops j) undef = (a.put o'.dst v).tmps.getD (dstOf ops j) undef
              rw [Array.getD_eq_getD_getElem?, Array.getD_eq_getD_getElem?, hget, if_neg hne]
end
def waitB (o : Oper) (j : Nat) : Bool := o.after.toList.any fun e => Region.binds .any e && e.on == j

theorem waitB_spec {o : Oper} {j : Nat} (h : waitB o j = true) : ∃ e ∈ o.after, Region.binds .any e = true ∧ e.on = j := by
  unfold waitB at h
  obtain ⟨e, he, hb⟩ := List.any_eq_true.1 h
  simp only [Bool.and_eq_true, beq_iff_eq] at hb
  exact ⟨e, by simpa using he, hb.1, hb.2⟩
theorem zip_fold (y : Nat → Value) (d : Nat → Nat) : ∀ (H : List Nat) (b : Act), H.foldl (fun b i => b.put (some (d i)) (y i)) b = (H.zip (H.map d)).foldl (fun b p => b.put (some p.2) (y p.1)) b
  | [], _ => rfl
  | i :: H, b => by rw [List.foldl_cons, List.map_cons, List.zip_cons_cons, List.foldl_cons]; exact zip_fold y d H _
end Go.Proofs.YtfdgjbanajodfaaDoor
