/- A drawn region in three parts: a head that makes blocks and calls in any order; then what writes or calls, in its forced order; then what only reads, in the order of its text. -/
import Derived.Test.YtfdgjbanajodfaaDoorNewC
import Derived.Test.YtfdgjbanajodfaaDoorPhase
set_option linter.unusedVariables false
set_option linter.unusedSimpArgs false
namespace Go.Proofs.YtfdgjbanajodfaaDoor
open Go.RowKit

section
variable {P : Program} {ops : Array Oper} {md : Region.Mode} {Q : Exit → Act → World → Prop}
def freeKB (md : Region.Mode) (ops : Array Oper) (H T : List Nat) : Bool :=
  (List.range ops.size).all (fun i => H.contains i != T.contains i) && (H.all (headB md ops H) && (T.all (fun t => H.all fun i => ancB md ops 8 t i) &&
    decide (cntN (fun k => (maskOf ops.size H).getD k false) ops.size = T.length)))
theorem free_anyK (H T : List Nat) (a0 : Act) (G : (Nat → Bool) → (Nat → Value) → World → Prop) (hG : ∀ L y y' w, (∀ i ∈ H, y i = y' i) → G L y w → G L y' w) (hB : freeKB md ops H T = true) (hnd : (H.map (dstOf ops)).Nodup) (hsz : ∀ i ∈ H, dstOf ops i < a0.tmps.size)
    (hstep : ∀ i ∈ H, ∀ o, ops[i]? = some o → ∀ L a w, L i = false → (∀ e ∈ o.after, Region.binds md e = true → L e.on = true ∧ e.on ∈ H) → InvA ops a0 H G L a w →
      Does P o a w fun v w' => G (lset L i) (yset (fun j => a.tmps.getD (dstOf ops j) undef) i v) w')
    (hend : ∀ (y : Nat → Value) (w : World), G (fun k => (maskOf ops.size H).getD k false) y w → wpAny P md ops Q T.length (maskOf ops.size H) (H.foldl (fun b i => b.put (some (dstOf ops i)) (y i)) a0) w) :
    ∀ (fuel : Nat) (listed : Array Bool) (a : Act) (w : World), listed.size = ops.size → cntN (fun k => listed.getD k false) ops.size = fuel → (∀ t, t ∉ H → listed.getD t false = false) → Closed md ops listed →
      InvA ops a0 H G (fun k => listed.getD k false) a w → wpAny P md ops Q fuel listed a w := by
  simp only [freeKB, Bool.and_eq_true, List.all_eq_true, decide_eq_true_eq] at hB
  obtain ⟨hp, hH, hA, hcnt⟩ := hB
  intro fuel
  induction fuel with
  | zero =>
    intro listed a w hls hf hno hcl hI
    have hall : ∀ i ∈ H, listed.getD i false = true := by
      intro i hi
      obtain ⟨_, _, hlt, _⟩ := headB_spec (hH i hi)
      have : ∀ n (f : Nat → Bool), cntN f n = 0 → ∀ i, i < n → f i = true := by
        intro n f
        induction n with
        | zero => intro _ i h; omega
        | succ n ih =>
          intro h i hi
          rw [cntN] at h
          rcases Nat.lt_succ_iff_lt_or_eq.1 hi with h1 | h1
          · exact ih (by omega) i h1
          · subst h1
            cases hf : f i
            · rw [hf] at h; simp at h
            · rfl
      exact this _ _ hf i hlt
    have hm : listed = maskOf ops.size H := by
      apply Array.ext
      · simp [maskOf, hls]
      · intro k h1 h2
        by_cases hk : k ∈ H
        · have := hall k hk
          simp [h1] at this
          simp [maskOf, hk, this]
        · have := hno k hk
          simp [h1] at this
          simp [maskOf, hk, this]
    have hT0 : T.length = 0 := by rw [← hcnt, ← hm]; exact hf
    obtain ⟨f1, f2, f3⟩ := fold_get a (dstOf ops) H a0 hsz
    have ha : a = H.foldl (fun b i => b.put (some (dstOf ops i)) (a.tmps.getD (dstOf ops i) undef)) a0 := by
      have e1 : a.tmps = (H.foldl (fun b i => b.put (some (dstOf ops i)) (a.tmps.getD (dstOf ops i) undef)) a0).tmps := by
        apply Array.ext_getElem?
        intro k
        rw [f3 k]
        split
        · rename_i hk
          obtain ⟨i, hi, hik⟩ := List.mem_map.1 hk
          have hlt : k < a.tmps.size := by rw [hI.sz, ← hik]; exact hsz i hi
          rw [Array.getD_eq_getD_getElem?, Array.getElem?_eq_getElem hlt]
          rfl
        · rename_i hk
          exact hI.old k fun i hi e => hk (List.mem_map.2 ⟨i, hi, e⟩)
      exact act_ext e1 (hI.dfr.trans f1.symm)
    have := hend (fun i => a.tmps.getD (dstOf ops i) undef) w (by rw [← hm]; exact hI.fact)
    rw [← ha, ← hm, hT0] at this
    exact this
  | succ fuel ih =>
    intro listed a w hls hf hno hcl hI
    by_cases hall : ∀ i ∈ H, listed.getD i false = true
    · have hm : listed = maskOf ops.size H := by
        apply Array.ext
        · simp [maskOf, hls]
        · intro k h1 h2
          by_cases hk : k ∈ H
          · have := hall k hk
            simp [h1] at this
            simp [maskOf, hk, this]
          · have := hno k hk
            simp [h1] at this
            simp [maskOf, hk, this]
      have hT0 : T.length = fuel + 1 := by rw [← hcnt, ← hm]; exact hf
      obtain ⟨f1, f2, f3⟩ := fold_get a (dstOf ops) H a0 hsz
      have ha : a = H.foldl (fun b i => b.put (some (dstOf ops i)) (a.tmps.getD (dstOf ops i) undef)) a0 := by
        have e1 : a.tmps = (H.foldl (fun b i => b.put (some (dstOf ops i)) (a.tmps.getD (dstOf ops i) undef)) a0).tmps := by
          apply Array.ext_getElem?
          intro k
          rw [f3 k]
          split
          · rename_i hk
            obtain ⟨i, hi, hik⟩ := List.mem_map.1 hk
            have hlt : k < a.tmps.size := by rw [hI.sz, ← hik]; exact hsz i hi
            rw [Array.getD_eq_getD_getElem?, Array.getElem?_eq_getElem hlt]
            rfl
          · rename_i hk
            exact hI.old k fun i hi e => hk (List.mem_map.2 ⟨i, hi, e⟩)
        exact act_ext e1 (hI.dfr.trans f1.symm)
      have := hend (fun i => a.tmps.getD (dstOf ops i) undef) w (by rw [← hm]; exact hI.fact)
      rw [← ha, ← hm, hT0] at this
      exact this
    · have hex : ∃ i ∈ H, listed.getD i false = false := by
        apply Classical.byContradiction
        intro h
        exact hall fun i hi => by
          cases hb : listed.getD i false
          · exact absurd ⟨i, hi, hb⟩ h
          · rfl
      refine ⟨fun h0 => ?_, fun i hi => ?_⟩
      · exfalso
        have key : ∀ n, ∀ i ∈ H, listed.getD i false = false → i = n → ∃ i ∈ H, listed.getD i false = false ∧ ∀ j ∈ H, j < i → listed.getD j false = true := by
          intro n
          induction n using Nat.strongRecOn with
          | _ n ihn =>
            intro i hi hu e
            by_cases h : ∀ j ∈ H, j < i → listed.getD j false = true
            · exact ⟨i, hi, hu, h⟩
            · have : ∃ j ∈ H, j < i ∧ listed.getD j false = false := by
                apply Classical.byContradiction
                intro hn
                exact h fun j hj hlt => by
                  cases hb : listed.getD j false
                  · exact absurd ⟨j, hj, hlt, hb⟩ hn
                  · rfl
              obtain ⟨j, hj, hlt, hb⟩ := this
              exact ihn j (by omega) j hj hb rfl
        obtain ⟨i0, hi0, hu0⟩ := hex
        obtain ⟨i, hi, hu, hlow⟩ := key i0 i0 hi0 hu0 rfl
        obtain ⟨o, ho, hlt, _, _, haft⟩ := headB_spec (hH i hi)
        have : i ∈ Region.ready md ops listed := mem_ready.2 ⟨getD_in (by rw [hls]; exact hlt) hu, o, ho, fun e he hb => hlow _ (haft e he hb).2 (haft e he hb).1⟩
        rw [h0] at this
        cases this
      · obtain ⟨hun, o, ho, hpre⟩ := mem_ready.1 hi
        have hun' := getD_both hun
        have hlt : i < ops.size := (Array.getElem?_eq_some_iff.1 ho).1
        have hiH : i ∈ H := by
          apply Classical.byContradiction
          intro hne
          have h1 := hp i (List.mem_range.2 hlt)
          have hc0 : H.contains i = false := by simpa using hne
          rw [hc0] at h1
          have hti : i ∈ T := by simpa using h1
          obtain ⟨j, hj, hu⟩ := hex
          have := anc_listed hcl 8 i j (hA i hti j hj) (fun o' ho' e he hb => by
            rw [ho] at ho'; injection ho' with ho'; subst ho'; exact hpre e he hb)
          rw [hu] at this
          cases this
        obtain ⟨o', ho', _, hg, hd, haft⟩ := headB_spec (hH i hiH)
        obtain rfl : o' = o := by rw [ho] at ho'; injection ho' with h; exact h.symm
        have hL := listed_set (listed := listed) (i := i) (by rw [hls]; exact hlt)
        unfold wpOp
        simp only [ho]
        have hw : Region.wanted o' (yielded ops a.tmps) = true := by simp [Region.wanted, hg]
        rw [if_pos hw]
        refine .inl (hstep i hiH o' ho _ a w hun' (fun e he hb => ⟨hpre e he hb, (haft e he hb).2⟩) hI _ _ fun v w' hJ => ?_)
        refine ih _ _ _ (by simp [hls]) ?_ (fun t ht => ?_) ?_ ?_
        · have := cntN_lset (f := fun k => listed.getD k false) hun' ops.size
          rw [if_pos hlt] at this
          rw [hL]
          omega
        · rw [getD_set_ne false (fun e => ht (by rw [← e]; exact hiH))]
          exact hno t ht
        · intro j oj hoj hj e he hb
          by_cases hji : j = i
          · subst hji
            rw [ho] at hoj
            injection hoj with hoj
            subst hoj
            exact getD_set_true (hpre e he hb)
          · rw [getD_set_ne false (Ne.symm hji)] at hj
            exact getD_set_true (hcl j oj hoj hj e he hb)
        · rw [hL]
          have hdlt : dstOf ops i < a.tmps.size := by rw [hI.sz]; exact hsz i hiH
          have hget : ∀ k, (a.put o'.dst v).tmps[k]? = if k = dstOf ops i then some v else a.tmps[k]? := by
            intro k
            rw [hd]
            show (a.tmps.setIfInBounds _ _)[k]? = _
            rw [Array.getElem?_setIfInBounds]
            by_cases e : dstOf ops i = k
            · subst e; simp [hdlt]
            · rw [if_neg e, if_neg (fun h => e h.symm)]
          refine ⟨?_, ?_, fun k hk2 => ?_, ?_⟩
          · rw [hd]; exact hI.dfr
          · rw [hd]
            show (a.tmps.setIfInBounds _ _).size = _
            rw [Array.size_setIfInBounds]; exact hI.sz
          · rw [hget, if_neg (fun e => hk2 i hiH e.symm)]
            exact hI.old k hk2
          · refine hG _ _ _ _ (fun j hj => ?_) hJ
            show yset _ i v j = _
            unfold yset
            by_cases hji : j = i
            · subst hji
              rw [if_pos rfl, Array.getD_eq_getD_getElem?, hget, if_pos rfl]
              rfl
            · have hne : dstOf ops j ≠ dstOf ops i := fun e => hji (inj_of_nodup hnd hj hiH e)
              rw [if_neg hji]
              show a.tmps.getD (dstOf ops j) undef = (a.put o'.dst v).tmps.getD (dstOf ops j) undef
              rw [Array.getD_eq_getD_getElem?, Array.getD_eq_getD_getElem?, hget, if_neg hne]
end
theorem wp_newFK {P : Program} {Q : Exit → Act → World → Prop} {id : Nat} {a0 : Act} {w : World} {l : List Oper} (H D C T : List Nat) (n s : Nat) (nw : Nat → Bool) (F : Nat → Value → Nat → World → Prop)
    (hm : P.follows .mixedOrders = true) (hB : freeKB .any l.toArray H (C ++ T) = true) (hTm : Tame Q) (hC : C.map (l.toArray[·]?) = ((l.take s).drop n).map some) (hs : l.length = s + T.length) (hsel : Region.noSelect l.toArray = true) (hmild : (l.drop s).all (mildOp P) = true) (hZ : chainZ .any l.toArray (fun L => Region.lexFrom .any l.toArray (l.drop s).length s L) C (maskOf l.toArray.size H) = true) (hD : H.map (dstOf l.toArray) = D) (hnd : D.Nodup) (hsz : (D.all fun d => decide (d < a0.tmps.size)) = true)
    (hkeep : ∀ i v g (w1 w2 : World), F i v g w1 → Below w1.heap.size w1 w2 → F i v g w2)
    (hext : ∀ i ∈ H, ∀ o, l.toArray[i]? = some o → ∀ (a : Act) w1, Below w.heap.size w w1 → (∀ k, k ∉ D → a.tmps[k]?.getD undef = a0.tmps[k]?.getD undef) →
      (∀ j d, waitB o j = true → dstOf l.toArray j = d → ∃ g, F j (a.tmps[d]?.getD undef) g w1) → Does P o a w1 fun v w2 => Below w1.heap.size w1 w2 ∧ ∃ g, F i v g w2 ∧ (nw i = true → w1.heap.size ≤ g ∧ g < w2.heap.size))
    (hend : ∀ (y : Nat → Value) (γ : Nat → Nat) (w' : World), Below w.heap.size w w' → (∀ i ∈ H, F i (y i) (γ i) w') → (∀ i ∈ H, nw i = true → w.heap.size ≤ γ i ∧ γ i < w'.heap.size) → (∀ i ∈ H, ∀ j ∈ H, i ≠ j → nw i = true → nw j = true → γ i ≠ γ j) →
      chainW P l.toArray Q (fun _ => True) (fun a' w' => wpList P l.toArray (Headed P l.toArray Q [] w') (l.drop s) a' w') ((l.take s).drop n) ((H.zip D).foldl (fun b p => b.put (some p.2) (y p.1)) a0) w') :
    (Code.region id l.toArray true).wp P Q a0 w := by
  refine wp_region_any hm ?_
  have hcnt : ∀ n, cntN (fun k => (Array.replicate l.toArray.size false).getD k false) n = n := by
    intro n
    induction n with
    | zero => rfl
    | succ n ih => rw [cntN, ih, getD_replicate_false]; rfl
  have hmaskT : ∀ i ∈ H, (maskOf l.toArray.size H).getD i false = true := by
    intro i hi
    have hlt : i < l.toArray.size := by
      simp only [freeKB, Bool.and_eq_true, List.all_eq_true] at hB
      obtain ⟨_, _, hlt, _⟩ := headB_spec (hB.2.1 i hi)
      exact hlt
    have hlt' : i < l.length := by simpa using hlt
    simp [maskOf, List.getElem?_range hlt', hi]
  have hnd' : (H.map (dstOf l.toArray)).Nodup := by rw [hD]; exact hnd
  refine free_anyK H (C ++ T) a0 (fun L y w' => ∃ γ, NF w H nw F γ L y w') (fun L y y' w' hy ⟨γ, h⟩ => ⟨γ, h.bel, fun i hi hL => by rw [← hy i hi]; exact h.fact i hi hL, h.apart⟩) hB hnd'
    (fun i hi => by simpa using List.all_eq_true.1 hsz _ (by rw [← hD]; exact List.mem_map.2 ⟨i, hi, rfl⟩)) ?_
    (fun y w' ⟨γ, hy⟩ => by
      rw [zip_fold, hD]
      refine wpAny_of_Z (S := fun _ => True) _ _ _ _ ?_
      have hlT : T.length = (l.drop s).length := by rw [List.length_drop]; omega
      rw [List.length_append, hlT]
      refine chain_Z _ (fun a' w' => wpList P l.toArray (Headed P l.toArray Q [] w') (l.drop s) a' w') _ (fun listed a w hf _ hK =>
        wpAnyZ_of_still (K := fun a' => Q .normal a' w) (fun _ h => h) trivial _ _ _ (wpAnyS_lex hsel (l.drop s) s listed a (fun j => by simp) hf
          (still_of_list (W := w) (tame_headed hTm) (fun a' w' h' => by obtain ⟨rfl, h2⟩ := (Headed.normal ▸ h' : _ ∧ _); exact ⟨rfl, h2⟩) _ _ _ hmild (.inl rfl) hK).2)) C ((l.take s).drop n) _ _ _ hC hZ trivial ?_
      exact hend y γ w' hy.bel (fun i hi => (hy.fact i hi (hmaskT i hi)).1) (fun i hi => (hy.fact i hi (hmaskT i hi)).2) (fun i hi j hj hne h1 h2 => hy.apart i hi j hj hne (hmaskT i hi) (hmaskT j hj) h1 h2))
    l.toArray.size _ _ _ (by simp) (hcnt _) (fun t _ => getD_replicate_false _ _)
    (fun i o _ h => (by rw [getD_replicate_false] at h; cases h)) ⟨rfl, rfl, fun _ _ => rfl, fun _ => 0, ⟨rfl, rfl, rfl, Nat.le_refl _, fun _ _ => rfl⟩, fun i _ h => (by rw [getD_replicate_false] at h; cases h), fun i _ j _ _ h => (by rw [getD_replicate_false] at h; cases h)⟩
  intro i hi o ho L a w1 hLi hpre hI
  obtain ⟨γ, hN⟩ := hI.fact
  have hold : ∀ k, k ∉ D → a.tmps[k]?.getD undef = a0.tmps[k]?.getD undef := by
    intro k hk
    rw [hI.old k fun j hj e => hk (by rw [← hD, ← e]; exact List.mem_map.2 ⟨j, hj, rfl⟩)]
  have hfact : ∀ j d, waitB o j = true → dstOf l.toArray j = d → ∃ g, F j (a.tmps[d]?.getD undef) g w1 := by
    intro j d hj hd
    obtain ⟨e, he, hb, hon⟩ := waitB_spec hj
    obtain ⟨h1, h2⟩ := hpre e he hb
    rw [hon] at h1 h2
    refine ⟨γ j, ?_⟩
    rw [← hd, ← Array.getD_eq_getD_getElem?]
    exact (hN.fact j h2 h1).1
  refine (hext i hi o ho a w1 hN.bel hold hfact).mono fun v w2 ⟨hb2, g, hF, hnew⟩ => ?_
  have hsz2 := hb2.size
  refine ⟨fun j => if j = i then g else γ j, hN.bel.trans (hb2.mono hN.bel.size), fun j hj hLj => ?_, fun j hj k hk hne h1 h2 n1 n2 => ?_⟩
  · unfold yset
    by_cases e : j = i
    · subst e
      simp only [if_true]
      exact ⟨hF, fun hn => by have := hnew hn; have := hN.bel.size; omega⟩
    · simp only [if_neg e]
      obtain ⟨q1, q2⟩ := hN.fact j hj (by simpa [lset, e] using hLj)
      exact ⟨hkeep _ _ _ _ _ q1 hb2, fun hn => by have := q2 hn; omega⟩
  · by_cases e1 : j = i
    · subst e1
      have e2 : k ≠ j := Ne.symm hne
      simp only [if_true, if_neg e2]
      have q1 := (hN.fact k hk (by simpa [lset, e2] using h2)).2 n2
      have q2 := hnew n1
      omega
    · by_cases e2 : k = i
      · subst e2
        simp only [if_true, if_neg e1]
        have q1 := (hN.fact j hj (by simpa [lset, e1] using h1)).2 n1
        have q2 := hnew n2
        omega
      · simp only [if_neg e1, if_neg e2]
        exact hN.apart j hj k hk hne (by simpa [lset, e1] using h1) (by simpa [lset, e2] using h2) n1 n2
end Go.Proofs.YtfdgjbanajodfaaDoor
