/- A region that draws its order: a head in whatever order, told by what holds of the operations that are done and of what they yield; then a tail in its forced order. -/
import Derived.Test.YtfdgjbanajodfaaDoorFree
set_option linter.unusedVariables false
set_option linter.unusedSimpArgs false
namespace Go.Proofs.YtfdgjbanajodfaaDoor
open Go.RowKit

theorem wp_freeG {P : Program} {Q : Exit → Act → World → Prop} {id : Nat} {a0 : Act} {w : World} {l : List Oper} (H D T : List Nat) (n : Nat) (G : (Nat → Bool) → (Nat → Value) → World → Prop)
    (hm : P.follows .mixedOrders = true) (hB : freeB .any l.toArray H T = true) (hD : H.map (dstOf l.toArray) = D) (hnd : D.Nodup) (hsz : (D.all fun d => decide (d < a0.tmps.size)) = true) (hT : T.map (l.toArray[·]?) = (l.drop n).map some)
    (hG : ∀ L y y' w, (∀ i ∈ H, y i = y' i) → G L y w → G L y' w)
    (hext : ∀ i ∈ H, ∀ o, l.toArray[i]? = some o → ∀ (L : Nat → Bool) (y : Nat → Value) (a : Act) w1, L i = false → G L y w1 → (∀ k, k ∉ D → a.tmps[k]?.getD undef = a0.tmps[k]?.getD undef) →
      (∀ j d, waitB o j = true → dstOf l.toArray j = d → L j = true ∧ a.tmps[d]?.getD undef = y j) → Does P o a w1 fun v w2 => G (lset L i) (yset y i v) w2)
    (h0 : ∀ y, G (fun _ => false) y w.drew)
    (hend : ∀ (y : Nat → Value) (w' : World), G (fun k => (maskOf l.toArray.size H).getD k false) y w' → wpList P l.toArray Q (l.drop n) ((H.zip D).foldl (fun b p => b.put (some p.2) (y p.1)) a0) w') :
    (Code.region id l.toArray true).wp P Q a0 w := by
  refine wp_region_any hm ?_
  have hcnt : ∀ n, cntN (fun k => (Array.replicate l.toArray.size false).getD k false) n = n := by
    intro n
    induction n with
    | zero => rfl
    | succ n ih => rw [cntN, ih, getD_replicate_false]; rfl
  have hnd' : (H.map (dstOf l.toArray)).Nodup := by rw [hD]; exact hnd
  have hf : (fun k => (Array.replicate l.toArray.size false).getD k false) = fun _ => false := funext fun k => getD_replicate_false _ _
  refine free_any H T (l.drop n) a0 G hG hB hnd' (fun i hi => by simpa using List.all_eq_true.1 hsz _ (by rw [← hD]; exact List.mem_map.2 ⟨i, hi, rfl⟩)) hT ?_
    (fun y w' hy => by
      rw [zip_fold, hD]
      exact hend y w' hy)
    l.toArray.size _ _ _ (by simp) (hcnt _) (fun t _ => getD_replicate_false _ _)
    (fun i o _ h => (by rw [getD_replicate_false] at h; cases h)) ⟨rfl, rfl, fun _ _ => rfl, by rw [hf]; exact h0 _⟩
  intro i hi o ho L a w1 hLi hpre hI
  refine hext i hi o ho L _ a w1 hLi hI.fact (fun k hk => ?_) (fun j d hj hd => ?_)
  · rw [hI.old k fun j hj e => hk (by rw [← hD, ← e]; exact List.mem_map.2 ⟨j, hj, rfl⟩)]
  · obtain ⟨e, he, hb, hon⟩ := waitB_spec hj
    obtain ⟨h1, h2⟩ := hpre e he hb
    rw [hon] at h1 h2
    exact ⟨h1, by rw [← hd, ← Array.getD_eq_getD_getElem?]⟩
end Go.Proofs.YtfdgjbanajodfaaDoor
