/- A region that draws its order, whose first writer c waits for all that loads: the loads are taken in the world as it stood; then what yields in whatever world; then the rest, in its forced order. -/
import Derived.Test.YtdgegbdkimdpjaaFree
import Derived.Test.YtdgegbdkimdpjaaPhase
set_option linter.unusedVariables false
set_option linter.unusedSimpArgs false
namespace Go.Proofs.Ytdgegbdkimdpjaa
open Go.RowKit

section
variable {P : Program} {ops : Array Oper} {Q : Exit → Act → World → Prop} {md : Region.Mode} {c : Nat} {w0 : World}
/-- Until c is listed the world is as it was. -/
def SL (c : Nat) (w0 : World) (listed : Array Bool) (w : World) : Prop := listed.getD c false = false → w = w0
def wpAnyL (P : Program) (md : Region.Mode) (ops : Array Oper) (Q : Exit → Act → World → Prop) (c : Nat) (w0 : World) : Nat → Array Bool → Act → World → Prop
  | 0, listed, a, w => Region.ready md ops listed = [] ∧ Q .normal a w
  | fuel + 1, listed, a, w =>
    (Region.ready md ops listed = [] → Q .normal a w) ∧
    ∀ i ∈ Region.ready md ops listed, wpOp P ops Q i (fun a' w' => SL c w0 (listed.setIfInBounds i true) w' ∧ wpAnyL P md ops Q c w0 fuel (listed.setIfInBounds i true) a' w') a w
theorem wpAny_of_L : ∀ (fuel : Nat) (listed : Array Bool) (a : Act) (w : World), wpAnyL P md ops Q c w0 fuel listed a w → wpAny P md ops Q fuel listed a w
  | 0, _, _, _, h => h
  | fuel + 1, _, _, _, h => ⟨h.1, fun i hi => wpOp_mono (fun a' w' h' => wpAny_of_L fuel _ a' w' h'.2) (h.2 i hi)⟩
theorem closed_ready {listed : Array Bool} {j : Nat} (hc : Closed md ops listed) (hj : j ∈ Region.ready md ops listed) : Closed md ops (listed.setIfInBounds j true) := by
  intro i o ho hl e he hb
  by_cases hij : i = j
  · subst hij
    obtain ⟨_, o', ho', hall⟩ := mem_ready.1 hj
    rw [ho] at ho'
    injection ho' with ho'
    subst ho'
    exact getD_set_true (hall e he hb)
  · rw [getD_set_ne false (Ne.symm hij)] at hl
    exact getD_set_true (hc i o ho hl e he hb)
theorem wpAnyL_first {i : Nat} {oi : Oper} {v : Value} {F : Prop} (hic : i ≠ c) (hi : ops[i]? = some oi) (hsel : ∀ (j : Nat) (o : Oper) cs b, ops[j]? = some o → o.op ≠ .select cs b)
    (hQ : ∀ c a w, Q (.panic c) (a.put oi.dst v) w → Q (.panic c) a w) (hanc : F → ∀ L : Array Bool, Closed md ops L → L.getD i false = false → L.getD c false = false) :
    ∀ (fuel : Nat) (listed : Array Bool) (a : Act) (w : World), Closed md ops listed →
      (∀ j oj, ops[j]? = some oj → j ≠ i → listed.getD j true = false → (∀ e ∈ oj.after, Region.binds md e = true → e.on ≠ i) → oi.apart ops oj = true) →
      i ∈ Region.ready md ops listed → YieldsIf P ops (fun W => F → W = w0) oi v a → SL c w0 listed w →
      wpAnyL P md ops Q c w0 fuel (listed.setIfInBounds i true) (a.put oi.dst v) w → wpAnyL P md ops Q c w0 (fuel + 1) listed a w := by
  have same : ∀ listed : Array Bool, (listed.setIfInBounds i true).getD c false = listed.getD c false := fun listed => getD_set_ne false hic
  intro fuel
  induction fuel with
  | zero =>
    intro listed a w hcl _ hr hy hS H
    have hun := getD_both (mem_ready.1 hr).1
    refine ⟨fun h => (by rw [h] at hr; cases hr), fun j hj => ?_⟩
    by_cases hji : j = i
    · subst hji; exact hy.wpOp hi (fun hF => hS (hanc hF listed hcl hun)) ⟨fun h => hS (by rw [same] at h; exact h), H⟩
    · have := ready_mono hj hji
      rw [H.1] at this
      cases this
  | succ fuel ih =>
    intro listed a w hcl hfree hr hy hS H
    have hun := getD_both (mem_ready.1 hr).1
    refine ⟨fun h => (by rw [h] at hr; cases hr), fun j hj => ?_⟩
    by_cases hji : j = i
    · subst hji; exact hy.wpOp hi (fun hF => hS (hanc hF listed hcl hun)) ⟨fun h => hS (by rw [same] at h; exact h), H⟩
    · have h1 := H.2 j (ready_mono hj hji)
      obtain ⟨hjun, oj, hoj, hall⟩ := mem_ready.1 hj
      have hnot : ∀ e ∈ oj.after, Region.binds md e = true → e.on ≠ i := fun e he hb heq => by
        have h1 := hall e he hb
        have h0 := (mem_ready.1 hr).1
        rw [heq, getD_both h0] at h1
        cases h1
      have h2 := wpOp_putIf hoj (hfree j oj hoj hji hjun hnot) (fun cs b => hsel i oi cs b hi) (fun cs b => hsel j oj cs b hoj) hQ hy h1
      have hfree' : ∀ k ok, ops[k]? = some ok → k ≠ i → (listed.setIfInBounds j true).getD k true = false →
          (∀ e ∈ ok.after, Region.binds md e = true → e.on ≠ i) → oi.apart ops ok = true := fun k ok hk hki hun hno => by
        refine hfree k ok hk hki ?_ hno
        by_cases hjk : j = k
        · subst hjk; exact hjun
        · rw [getD_set_ne true hjk] at hun; exact hun
      have sl : ∀ w', SL c w0 ((listed.setIfInBounds i true).setIfInBounds j true) w' → SL c w0 (listed.setIfInBounds j true) w' := fun w' h hc2 => h (by
        rw [Array.setIfInBounds_comm _ _ (Ne.symm hji), same]; exact hc2)
      refine wpOp_mono (fun a' w' h3 => ⟨sl w' h3.2.1, ih (listed.setIfInBounds j true) a' w' (closed_ready hcl hj) hfree' (ready_mono hr (Ne.symm hji)) h3.1 (sl w' h3.2.1) ?_⟩) h2
      rw [Array.setIfInBounds_comm _ _ hji]
      exact h3.2.2

theorem takes_L {F : Prop} (hT : Tame Q) (hsel : Region.noSelect ops = true) (A1 : Act) (fin : Array Bool → Bool) (w : World) (hF : F → w = w0) : ∀ (H : List Nat) (l : List Oper) (listed : Array Bool) (a : Act) (fuel : Nat),
    (∀ k, k ∈ H → k ≠ c) → (F → ∀ k, k ∈ H → ∀ L : Array Bool, Closed md ops L → L.getD k false = false → L.getD c false = false) →
    H.map (ops[·]?) = l.map some → l.all (mildOp P) = true → slotsOk a.tmps.size l = true → heldZ md ops fin H listed = true → Closed md ops listed → SL c w0 listed w →
    (∀ W, (F → W = w0) → wpList P ops (Taken A1 W) l a W) →
    (∀ listed', Closed md ops listed' → SL c w0 listed' w → fin listed' = true → wpAnyL P md ops Q c w0 fuel listed' A1 w) →
    wpAnyL P md ops Q c w0 (H.length + fuel) listed a w := by
  intro H
  induction H with
  | nil =>
    intro l listed a fuel _ _ hmap _ _ hok hcl hSL hW hfin
    obtain rfl : l = [] := by simpa using hmap
    have h := hW w hF
    have h : Taken A1 w .normal a w := h
    rw [List.length_nil, Nat.zero_add, h.2.1]
    exact hfin listed hcl hSL hok
  | cons k H ih =>
    intro l listed a fuel hne hanc hmap hmild hslots hok hcl hSL hW hfin
    obtain ⟨o, l', rfl⟩ : ∃ o l', l = o :: l' := by
      cases l with
      | nil => simp at hmap
      | cons o l' => exact ⟨o, l', rfl⟩
    simp only [List.map_cons, List.cons.injEq] at hmap
    obtain ⟨ho, hmap'⟩ := hmap
    rw [List.all_cons, Bool.and_eq_true] at hmild
    simp only [slotsOk, Bool.and_eq_true] at hslots
    obtain ⟨hs1, hs2⟩ := hslots
    obtain ⟨d, hd⟩ : ∃ d, o.dst = some d := by
      cases hod : o.dst with
      | none => rw [hod] at hs1; cases hs1
      | some d => exact ⟨d, rfl⟩
    rw [hd] at hs1
    have hs1 : (decide (d < a.tmps.size) && l'.all fun o' => o'.dst != some d) = true := hs1
    rw [Bool.and_eq_true, decide_eq_true_eq] at hs1
    obtain ⟨hdn, hrest⟩ := hs1
    have hrest' : ∀ o' ∈ l', o'.dst ≠ some d := fun o' ho' => by
      have := List.all_eq_true.1 hrest o' ho'
      simpa using this
    simp only [heldZ, Bool.and_eq_true] at hok
    obtain ⟨⟨hr, hf⟩, hok'⟩ := hok
    obtain ⟨v, hv⟩ : ∃ v, A1.tmps[d]? = some v := by
      have hsz : A1.tmps.size = a.tmps.size := by
        have key : ∀ (l : List Oper) (a : Act) (w W : World), l.all (mildOp P) = true → wpList P ops (Taken A1 W) l a w → A1.tmps.size = a.tmps.size := by
          intro l
          induction l with
          | nil => intro a w W _ h; have h : Taken A1 W .normal a w := h; rw [h.2.1]
          | cons o l ih =>
            intro a w W hm h
            rw [List.all_cons, Bool.and_eq_true] at hm
            have hp : ∀ v, (a.put o.dst v).tmps.size = a.tmps.size := by
              intro v
              cases o.dst with
              | none => rfl
              | some d => show (a.tmps.setIfInBounds d v).size = _; simp
            unfold wpList at h
            split at h
            · rcases h with h | ⟨_, h⟩
              case inr => exact absurd h taken_tame.2
              unfold Oper.wp at h
              generalize hr : (execOp a.eval o).run P w = r at h
              cases r with
              | halt x w' =>
                cases x <;> simp only [Oper.upon] at h
                exact absurd h (taken_tame.1 _ _ _)
              | ok n w' =>
                obtain ⟨⟨v, rfl⟩, _⟩ := mildOp_run hm.1 hr
                simp only [Oper.upon] at h
                rw [ih _ _ _ hm.2 h, hp]
            · rw [ih _ _ _ hm.2 h, hp]
        exact key _ _ _ _ (by rw [List.all_cons, Bool.and_eq_true]; exact hmild) (hW w hF)
      have hdn2 : d < a.tmps.size := hdn
      rw [← hsz] at hdn2
      exact ⟨A1.tmps[d]'hdn2, Array.getElem?_eq_getElem _⟩
    have hat : ∀ u : Value, (a.put o.dst u).tmps[d]? = some u := by
      intro u
      rw [hd]
      show (a.tmps.setIfInBounds d u)[d]? = _
      rw [Array.getElem?_setIfInBounds_self_of_lt hdn]
    have each : ∀ W, (F → W = w0) → (Region.wanted o (yielded ops a.tmps) = true ∧ (execOp a.eval o).run P W = .ok (.value v) W ∨ Region.wanted o (yielded ops a.tmps) = false ∧ v = undef) ∧ wpList P ops (Taken A1 W) l' (a.put o.dst v) W := by
      intro W hSW
      have h := hW W hSW
      have hup := still_of_list (P := P) (ops := ops) (W := W) (K := fun _ => True) (Q' := Taken A1 W) taken_tame (fun a' w' h' => ⟨h'.2.2, trivial⟩)
      unfold wpList at h
      split at h
      · rename_i hw
        rcases h with h | ⟨_, h⟩
        case inr => exact absurd h taken_tame.2
        unfold Oper.wp at h
        generalize hr2 : (execOp a.eval o).run P W = r at h
        cases r with
        | halt x w' =>
          cases x <;> simp only [Oper.upon] at h
          exact absurd h (taken_tame.1 _ _ _)
        | ok n w' =>
          obtain ⟨⟨u, rfl⟩, hu⟩ := mildOp_run hmild.1 hr2
          simp only [Oper.upon] at h
          obtain rfl : w' = W := (hup l' _ w' hmild.2 hu h).1
          have := taken_keeps l' _ _ _ hmild.2 hrest' h
          rw [hat, hv] at this
          injection this with this
          subst this
          exact ⟨.inl ⟨hw, rfl⟩, h⟩
      · rename_i hw
        have := taken_keeps l' _ _ _ hmild.2 hrest' h
        rw [hat, hv] at this
        injection this with this
        subst this
        exact ⟨.inr ⟨by simpa using hw, rfl⟩, h⟩
    have hy : YieldsIf P ops (fun W => F → W = w0) o v a := by
      rcases (each w hF).1 with ⟨hw, _⟩ | ⟨hw, hu⟩
      · refine .inl ⟨hw, fun W hSW => ?_⟩
        rcases (each W hSW).1 with ⟨_, h2⟩ | ⟨h2, _⟩
        · exact h2
        · rw [hw] at h2; cases h2
      · exact .inr ⟨hw, hu⟩
    have hkc := hne k (by simp)
    have hr' : k ∈ Region.ready md ops listed := by simpa using hr
    rw [List.length_cons, Nat.add_right_comm]
    refine wpAnyL_first hkc ho (Region.noSelect_spec hsel) (fun c a' w' hq => absurd hq (hT.1 _ _ _)) (fun h => hanc h k (by simp)) _ listed a w hcl (Region.free_spec ho hf) hr' hy hSL ?_
    refine ih l' _ _ fuel (fun j hj => hne j (by simp [hj])) (fun h j hj => hanc h j (by simp [hj])) hmap' hmild.2 ?_ hok' (closed_ready hcl hr') (fun h => hSL (by rw [getD_set_ne false hkc] at h; exact h)) (fun W hSW => (each W hSW).2) hfin
    rw [hd]
    show slotsOk (a.tmps.setIfInBounds d v).size l' = true
    rw [Array.size_setIfInBounds]
    exact hs2

theorem chain_L : ∀ (T : List Nat) (l : List Oper) (listed : Array Bool) (a : Act) (w : World), T.map (ops[·]?) = l.map some → (listed.getD c false = true ∨ (T.head? = some c ∧ c < listed.size)) →
    chainZ md ops (fun L => (Region.ready md ops L).isEmpty) T listed = true → wpList P ops Q l a w → wpAnyL P md ops Q c w0 T.length listed a w := by
  intro T
  induction T with
  | nil =>
    intro l listed a w hl _ hc h
    obtain rfl : l = [] := by simpa using hl
    exact ⟨by simpa [chainZ] using hc, h⟩
  | cons k T ih =>
    intro l listed a w hl hcs hc h
    obtain ⟨o, l', rfl⟩ : ∃ o l', l = o :: l' := by
      cases l with
      | nil => simp at hl
      | cons o l' => exact ⟨o, l', rfl⟩
    simp only [List.map_cons, List.cons.injEq] at hl
    obtain ⟨ho, hl'⟩ := hl
    simp only [chainZ, Bool.and_eq_true, decide_eq_true_eq] at hc
    have hnow : (listed.setIfInBounds k true).getD c false = true := by
      rcases hcs with h1 | ⟨h1, h2⟩
      · exact getD_set_true h1
      · have : k = c := by simpa using h1
        subst this
        simp [h2]
    refine ⟨fun h0 => (by rw [hc.1] at h0; cases h0), fun i hi => ?_⟩
    rw [hc.1] at hi
    obtain rfl : i = k := by simpa using hi
    have key : ∀ a' w', wpList P ops Q l' a' w' → SL c w0 (listed.setIfInBounds i true) w' ∧ wpAnyL P md ops Q c w0 T.length (listed.setIfInBounds i true) a' w' := fun a' w' h' => ⟨fun h2 => (by rw [hnow] at h2; cases h2), ih l' _ a' w' hl' (.inl hnow) hc.2 h'⟩
    unfold wpOp
    simp only [ho]
    unfold wpList at h
    split
    · rename_i hw
      rw [if_pos hw] at h
      exact h.imp (Oper.wp_mono fun a' w' h' => key a' w' h') id
    · rename_i hw
      rw [if_neg hw] at h
      exact key _ _ h
def seqB (P : Program) (n c : Nat) (mask : List Nat) (l : List Oper) : Bool :=
  Region.noSelect l.toArray && (pick (mask.map (· == 0)) l).all (mildOp P) && slotsOk n (pick (mask.map (· == 0)) l) && (pick (mask.map (· == 1)) l).all (mildOp P) && slotsOk n (pick (mask.map (· == 1)) l) &&
    heldZ .any l.toArray (fun L => heldZ .any l.toArray (fun L => chainZ .any l.toArray (fun L => (Region.ready .any l.toArray L).isEmpty) (places (mask.map (· == 2)) 0) L && decide (c < L.size)) (places (mask.map (· == 1)) 0) L) (places (mask.map (· == 0)) 0) (Array.replicate l.toArray.size false) &&
    ((places (mask.map (· == 0)) 0).length + ((places (mask.map (· == 1)) 0).length + (places (mask.map (· == 2)) 0).length) == l.toArray.size) &&
    ((places (mask.map (· == 0)) 0).all fun k => k != c && ancB .any l.toArray 6 c k) && ((places (mask.map (· == 1)) 0).all fun k => k != c) && ((places (mask.map (· == 2)) 0).head? == some c)
/-- Digits: 0 loads that the writer c waits for; 1 what yields in whatever world; 2 c and what stands behind it, in forced order. -/
theorem wp_seq {id : Nat} {a : Act} {w : World} {l : List Oper} (c : Nat) (mask : List Nat) (A1 A2 : Act) (hm : P.follows .mixedOrders = true) (hlen : mask.length ≤ l.length)
    (hB : seqB P a.tmps.size c mask l = true) (hT : Tame Q) (hhead : wpList P l.toArray (Taken A1 w.drew) (pick (mask.map (· == 0)) l) a w.drew) (hsz : A1.tmps.size = a.tmps.size)
    (hmid : ∀ W, wpList P l.toArray (Taken A2 W) (pick (mask.map (· == 1)) l) A1 W) (htail : wpList P l.toArray Q (pick (mask.map (· == 2)) l) A2 w.drew) : (Code.region id l.toArray true).wp P Q a w := by
  unfold seqB at hB
  simp only [Bool.and_eq_true] at hB
  obtain ⟨⟨⟨⟨⟨⟨⟨⟨⟨h1, h2⟩, h3⟩, h4⟩, h5⟩, h6⟩, h7⟩, h8⟩, h9⟩, h10⟩ := hB
  have hcnt := (beq_iff_eq.1 h7).symm
  have hhd := beq_iff_eq.1 h10
  have hl : ∀ d : Nat, (mask.map (· == d)).length ≤ l.length := fun d => by simpa using hlen
  have key := takes_L (P := P) (Q := Q) (md := .any) (c := c) (w0 := w.drew) (F := True) hT h1 A1 _ w.drew (fun _ => rfl) (places (mask.map (· == 0)) 0) (pick (mask.map (· == 0)) l) (Array.replicate l.toArray.size false) a
    ((places (mask.map (· == 1)) 0).length + (places (mask.map (· == 2)) 0).length)
    (fun k hk => by have := List.all_eq_true.1 h8 k hk; simp at this; exact this.1)
    (fun _ k hk L hcl hk0 => by
      have h := List.all_eq_true.1 h8 k hk
      rw [Bool.and_eq_true] at h
      cases hc : L.getD c false
      · rfl
      · have := anc_listed hcl 6 c k h.2 (fun o ho e he hb => hcl c o ho hc e he hb)
        rw [hk0] at this; cases this)
    (pick_places _ l [] (hl 0)) h2 h3 h6 (fun i o _ h => by simp [Array.getD] at h) (fun _ => rfl) (fun W hW => by rw [hW trivial]; exact hhead)
    (fun L1 hcl1 hsl1 hf1 => takes_L (P := P) (Q := Q) (md := .any) (c := c) (w0 := w.drew) (F := False) hT h1 A2 _ w.drew (fun h => h.elim) (places (mask.map (· == 1)) 0) (pick (mask.map (· == 1)) l) L1 A1 (places (mask.map (· == 2)) 0).length
      (fun k hk => by have := List.all_eq_true.1 h9 k hk; simpa using this) (fun h => h.elim) (pick_places _ l [] (hl 1)) h4 (by rw [hsz]; exact h5) hf1 hcl1 hsl1 (fun W _ => hmid W)
      (fun L2 hcl2 hsl2 hf2 => by
        rw [Bool.and_eq_true, decide_eq_true_iff] at hf2
        exact chain_L _ _ _ _ _ (pick_places _ l [] (hl 2)) (.inr ⟨hhd, hf2.2⟩) hf2.1 htail))
  refine wp_region_any hm (wpAny_of_L (c := c) (w0 := w.drew) _ _ _ _ ?_)
  rw [← hcnt] at key
  exact key
end
end Go.Proofs.Ytdgegbdkimdpjaa
