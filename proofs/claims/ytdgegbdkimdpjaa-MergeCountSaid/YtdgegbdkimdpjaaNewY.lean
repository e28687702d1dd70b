/- As wp_newFZ, where what is said of a yield may speak of the yields that it waited for. -/
import Derived.Test.YtdgegbdkimdpjaaNewZ
set_option linter.unusedVariables false
set_option linter.unusedSimpArgs false
namespace Go.Proofs.Ytdgegbdkimdpjaa
open Go.RowKit

structure NFY (w0 : World) (ops : Array Oper) (H : List Nat) (nw : Nat → Bool) (F : Nat → (Nat → Value) → Nat → World → Prop) (γ : Nat → Nat) (L : Nat → Bool) (y : Nat → Value) (w : World) : Prop where
  bel : Below w0.heap.size w0 w
  fact : ∀ i ∈ H, L i = true → F i y (γ i) w ∧ (nw i = true → w0.heap.size ≤ γ i ∧ γ i < w.heap.size)
  apart : ∀ i ∈ H, ∀ j ∈ H, i ≠ j → L i = true → L j = true → nw i = true → nw j = true → γ i ≠ γ j
  cl : ∀ i ∈ H, L i = true → ∀ o, ops[i]? = some o → ∀ k, waitB o k = true → L k = true
theorem wp_newFY {P : Program} {Q : Exit → Act → World → Prop} {id : Nat} {a0 : Act} {w : World} {l : List Oper} (z : Nat) (vz : Value) (oz : Oper) (H D T : List Nat) (n : Nat) (nw : Nat → Bool) (F : Nat → (Nat → Value) → Nat → World → Prop)
    (hm : P.follows .mixedOrders = true) (hB : freeZ .any l.toArray z H T = true) (hzH : z ∈ H) (hzo : l.toArray[z]? = some oz) (hsel : Region.noSelect l.toArray = true) (hzf : Region.free .any l.toArray (Array.replicate l.toArray.size false) z = true) (hzr : (Region.ready .any l.toArray (Array.replicate l.toArray.size false)).contains z = true) (hzT : Tame Q) (hzy : Yields P l.toArray oz vz a0) (hzF : ∀ y w, y z = vz → F z y 0 w) (hzn : nw z = false) (hza : ∀ e ∈ oz.after, Region.binds .any e = true → False) (hD : H.map (dstOf l.toArray) = D) (hnd : D.Nodup) (hsz : (D.all fun d => decide (d < a0.tmps.size)) = true) (hT : T.map (l.toArray[·]?) = (l.drop n).map some)
    (hkeep : ∀ i v g (w1 w2 : World), F i v g w1 → Below w1.heap.size w1 w2 → F i v g w2)
    (hcong : ∀ i ∈ H, ∀ (y y' : Nat → Value) g w1, y' i = y i → (∀ o, l.toArray[i]? = some o → ∀ k, waitB o k = true → y' k = y k) → F i y g w1 → F i y' g w1)
    (hext : ∀ i ∈ H, ∀ o, l.toArray[i]? = some o → ∀ (a : Act) w1, Below w.heap.size w w1 → (∀ k, k ∉ D → a.tmps[k]?.getD undef = a0.tmps[k]?.getD undef) →
      (∀ j, waitB o j = true → ∃ g, F j (fun k => a.tmps.getD (dstOf l.toArray k) undef) g w1) → Does P o a w1 fun v w2 => Below w1.heap.size w1 w2 ∧ ∃ g, F i (yset (fun k => a.tmps.getD (dstOf l.toArray k) undef) i v) g w2 ∧ (nw i = true → w1.heap.size ≤ g ∧ g < w2.heap.size))
    (hend : ∀ (y : Nat → Value) (γ : Nat → Nat) (w' : World), Below w.heap.size w w' → (∀ i ∈ H, F i y (γ i) w') → (∀ i ∈ H, nw i = true → w.heap.size ≤ γ i ∧ γ i < w'.heap.size) → (∀ i ∈ H, ∀ j ∈ H, i ≠ j → nw i = true → nw j = true → γ i ≠ γ j) →
      wpList P l.toArray Q (l.drop n) ((H.zip D).foldl (fun b p => b.put (some p.2) (y p.1)) a0) w') :
    (Code.region id l.toArray true).wp P Q a0 w := by
  refine wp_region_any hm ?_
  have hcnt : ∀ n, cntN (fun k => (Array.replicate l.toArray.size false).getD k false) n = n := by
    intro n
    induction n with
    | zero => rfl
    | succ n ih => rw [cntN, ih, getD_replicate_false]; rfl
  have hmaskT : ∀ i ∈ H, (maskOf l.toArray.size H).getD i false = true := by
    intro i hi
    have hlt : i < l.toArray.size := by
      simp only [freeZ, Bool.and_eq_true, List.all_eq_true] at hB
      obtain ⟨_, _, hlt, _⟩ := headB_spec (hB.2.1 i hi)
      exact hlt
    have hlt' : i < l.length := by simpa using hlt
    simp [maskOf, List.getElem?_range hlt', hi]
  have hnd' : (H.map (dstOf l.toArray)).Nodup := by rw [hD]; exact hnd
  have hwH : ∀ i ∈ H, ∀ o, l.toArray[i]? = some o → ∀ k, waitB o k = true → k ∈ H := by
    intro i hi o ho k hk
    have hB' := hB
    simp only [freeZ, Bool.and_eq_true, List.all_eq_true] at hB'
    obtain ⟨o', ho', _, _, _, haft⟩ := headB_spec (hB'.2.1 i hi)
    rw [ho] at ho'
    injection ho' with ho'
    subst ho'
    obtain ⟨e, he, hb, hon⟩ := waitB_spec hk
    rw [← hon]
    exact (haft e he hb).2
  have hz2 : z < l.toArray.size := (Array.getElem?_eq_some_iff.1 hzo).1
  have hdz : dstOf l.toArray z < a0.tmps.size := by simpa using List.all_eq_true.1 hsz _ (by rw [← hD]; exact List.mem_map.2 ⟨z, hzH, rfl⟩)
  have hozd : oz.dst = some (dstOf l.toArray z) := by
    have hB' := hB
    simp only [freeZ, Bool.and_eq_true, List.all_eq_true] at hB'
    obtain ⟨o, ho, _, _, hd, _⟩ := headB_spec (hB'.2.1 z hzH)
    rw [hzo] at ho
    injection ho with ho
    rw [ho]; exact hd
  obtain ⟨fu, hfu⟩ : ∃ fu, l.toArray.size = fu + 1 := ⟨l.toArray.size - 1, by omega⟩
  have hL0 : (fun k => ((Array.replicate l.toArray.size false).setIfInBounds z true).getD k false) = lset (fun _ => false) z := by
    rw [listed_set (by simpa using hz2)]
    congr 1
    funext k
    exact getD_replicate_false _ _
  have hput : ∀ k, (a0.put oz.dst vz).tmps[k]? = if k = dstOf l.toArray z then some vz else a0.tmps[k]? := by
    intro k
    rw [hozd]
    show (a0.tmps.setIfInBounds _ _)[k]? = _
    rw [Array.getElem?_setIfInBounds]
    by_cases e : dstOf l.toArray z = k
    · subst e; simp [hdz]
    · rw [if_neg e, if_neg (fun h => e h.symm)]
  have hfact0 : ∀ i ∈ H, (fun k => ((Array.replicate l.toArray.size false).setIfInBounds z true).getD k false) i = true → F i (fun i => (a0.put oz.dst vz).tmps.getD (dstOf l.toArray i) undef) ((fun _ => 0) i) { w with drawn := w.drawn + 1 } ∧ (nw i = true → w.heap.size ≤ (fun _ => 0) i ∧ (fun _ => 0) i < ({ w with drawn := w.drawn + 1 } : World).heap.size) := by
    intro i hi h
    have h : ((Array.replicate l.toArray.size false).setIfInBounds z true).getD i false = true := h
    by_cases hiz : i = z
    · subst hiz
      refine ⟨?_, fun h2 => by rw [hzn] at h2; cases h2⟩
      refine hzF _ _ ?_
      show (a0.put oz.dst vz).tmps.getD (dstOf l.toArray i) undef = vz
      rw [Array.getD_eq_getD_getElem?, hput, if_pos rfl]
      rfl
    · rw [getD_set_ne false (Ne.symm hiz), getD_replicate_false] at h
      cases h
  have hap0 : ∀ i ∈ H, ∀ j ∈ H, i ≠ j → (fun k => ((Array.replicate l.toArray.size false).setIfInBounds z true).getD k false) i = true → (fun k => ((Array.replicate l.toArray.size false).setIfInBounds z true).getD k false) j = true → nw i = true → nw j = true → (fun _ => 0) i ≠ (fun _ => 0) j := by
    intro i _ j _ hne h h2 n1 _
    have h : ((Array.replicate l.toArray.size false).setIfInBounds z true).getD i false = true := h
    by_cases hiz : i = z
    · subst hiz; rw [hzn] at n1; cases n1
    · rw [getD_set_ne false (Ne.symm hiz), getD_replicate_false] at h
      cases h
  have hcl0 : ∀ i ∈ H, (fun k => ((Array.replicate l.toArray.size false).setIfInBounds z true).getD k false) i = true → ∀ o, l.toArray[i]? = some o → ∀ k, waitB o k = true → (fun k => ((Array.replicate l.toArray.size false).setIfInBounds z true).getD k false) k = true := by
    intro i hi h o ho k hk
    have h : ((Array.replicate l.toArray.size false).setIfInBounds z true).getD i false = true := h
    by_cases hiz : i = z
    · subst hiz
      rw [hzo] at ho
      injection ho with ho
      subst ho
      obtain ⟨e, he, hb, _⟩ := waitB_spec hk
      exact (hza e he hb).elim
    · rw [getD_set_ne false (Ne.symm hiz), getD_replicate_false] at h
      cases h
  have hstart := free_anyZ (P := P) (Q := Q) (md := .any) z H T (l.drop n) a0 (fun L y w' => ∃ γ, NFY w l.toArray H nw F γ L y w') (fun L y y' w' hy ⟨γ, h⟩ => ⟨γ, h.bel, fun i hi hL => ⟨hcong i hi y y' _ _ (hy i hi).symm (fun o ho k hk => (hy k (hwH i hi o ho k hk)).symm) (h.fact i hi hL).1, (h.fact i hi hL).2⟩, h.apart, h.cl⟩) hB hnd'
    (fun i hi => by simpa using List.all_eq_true.1 hsz _ (by rw [← hD]; exact List.mem_map.2 ⟨i, hi, rfl⟩)) hT ?step
    (fun y w' ⟨γ, hy⟩ => by
      rw [zip_fold, hD]
      exact hend y γ w' hy.bel (fun i hi => (hy.fact i hi (hmaskT i hi)).1) (fun i hi => (hy.fact i hi (hmaskT i hi)).2) (fun i hi j hj hne h1 h2 => hy.apart i hi j hj hne (hmaskT i hi) (hmaskT j hj) h1 h2))
    fu ((Array.replicate l.toArray.size false).setIfInBounds z true) (a0.put oz.dst vz) { w with drawn := w.drawn + 1 } (by simp)
    (by
      rw [hL0]
      have h1 := cntN_lset (f := fun _ => false) (i := z) rfl l.toArray.size
      rw [if_pos hz2] at h1
      have h2 := hcnt l.toArray.size
      simp only [getD_replicate_false] at h2
      omega)
    (fun t ht => by rw [getD_set_ne false (fun e => ht (by rw [← e]; exact hzH))]; exact getD_replicate_false _ _)
    (fun i o hio hl e he hb => by
      by_cases hiz : i = z
      · subst hiz
        rw [hzo] at hio
        injection hio with hio
        subst hio
        exact (hza e he hb).elim
      · rw [getD_set_ne false (Ne.symm hiz), getD_replicate_false] at hl; cases hl)
    (by have h9 : z < l.length := by simpa using hz2
        simp [h9])
    ⟨by rw [hozd]; rfl, by rw [hozd]; show (a0.tmps.setIfInBounds _ _).size = _; rw [Array.size_setIfInBounds], fun k hk => by rw [hput, if_neg (fun e => hk z hzH e.symm)],
      fun _ => 0, ⟨rfl, rfl, rfl, Nat.le_refl _, fun _ _ => rfl⟩, hfact0, hap0, hcl0⟩
  · have key := wpAny_take (P := P) (Q := Q) (md := .any) (fuel := fu) hzo hsel hzf hzr (fun c a' w' hq => absurd hq (hzT.1 _ _ _)) hzy hstart
    rw [hfu]
    rw [hfu] at key
    exact key
  intro i hi o ho L a w1 hLi hpre hI
  obtain ⟨γ, hN⟩ := hI.fact
  have hold : ∀ k, k ∉ D → a.tmps[k]?.getD undef = a0.tmps[k]?.getD undef := by
    intro k hk
    rw [hI.old k fun j hj e => hk (by rw [← hD, ← e]; exact List.mem_map.2 ⟨j, hj, rfl⟩)]
  have hfact : ∀ j, waitB o j = true → ∃ g, F j (fun k => a.tmps.getD (dstOf l.toArray k) undef) g w1 := by
    intro j hj
    obtain ⟨e, he, hb, hon⟩ := waitB_spec hj
    obtain ⟨h1, h2⟩ := hpre e he hb
    rw [hon] at h1 h2
    exact ⟨γ j, (hN.fact j h2 h1).1⟩
  refine (hext i hi o ho a w1 hN.bel hold hfact).mono fun v w2 ⟨hb2, g, hF, hnew⟩ => ?_
  have hsz2 := hb2.size
  refine ⟨fun j => if j = i then g else γ j, hN.bel.trans (hb2.mono hN.bel.size), fun j hj hLj => ?_, fun j hj k hk hne h1 h2 n1 n2 => ?_, fun j hj hLj o' ho' k hk => ?_⟩
  · by_cases e : j = i
    · subst e
      simp only [if_true]
      exact ⟨hF, fun hn => by have := hnew hn; have := hN.bel.size; omega⟩
    · simp only [if_neg e]
      have hLj' : L j = true := by simpa [lset, e] using hLj
      obtain ⟨q1, q2⟩ := hN.fact j hj hLj'
      refine ⟨hcong j hj _ _ _ _ (by simp [yset, e]) (fun o' ho' k hk => ?_) (hkeep _ _ _ _ _ q1 hb2), fun hn => by have := q2 hn; omega⟩
      have hk1 := hN.cl j hj hLj' o' ho' k hk
      have hki : k ≠ i := fun e2 => by rw [e2, hLi] at hk1; cases hk1
      simp [yset, hki]
  · by_cases e1 : j = i
    · subst e1
      have e2 : k ≠ j := Ne.symm hne
      simp only [if_true, if_neg e2]
      have q1 := (hN.fact k hk (by simpa [lset, e2] using h2)).2 n2
      have q2 := hnew n1
      omega
    · by_cases e2 : k = i
      · subst e2
        simp only [if_true, if_neg e1]
        have q1 := (hN.fact j hj (by simpa [lset, e1] using h1)).2 n1
        have q2 := hnew n2
        omega
      · simp only [if_neg e1, if_neg e2]
        exact hN.apart j hj k hk hne (by simpa [lset, e1] using h1) (by simpa [lset, e2] using h2) n1 n2
  · by_cases e : j = i
    · subst e
      rw [ho] at ho'
      injection ho' with ho'
      subst ho'
      obtain ⟨e2, he, hb, hon⟩ := waitB_spec hk
      have h1 := (hpre e2 he hb).1
      rw [hon] at h1
      show (if k = j then true else L k) = true
      split
      · rfl
      · exact h1
    · have hLj' : L j = true := by simpa [lset, e] using hLj
      have h1 := hN.cl j hj hLj' o' ho' k hk
      show (if k = i then true else L k) = true
      split
      · rfl
      · exact h1
end Go.Proofs.Ytdgegbdkimdpjaa
