/- A region that draws its order, in three parts: loads that all the rest leaves as they were are taken first; then what writes or calls, in its forced order; then what only reads, in the order of its text. -/
import Derived.Test.YtfdgjbanajodfaaDoorHeld
set_option linter.unusedVariables false
set_option linter.unusedSimpArgs false
namespace Go.Proofs.YtfdgjbanajodfaaDoor
open Go.RowKit

section
variable {P : Program} {ops : Array Oper} {Q : Exit → Act → World → Prop} {md : Region.Mode} {S : World → Prop}

/-- Whatever order is picked; S holds behind every operation. -/
def wpAnyZ (P : Program) (md : Region.Mode) (ops : Array Oper) (Q : Exit → Act → World → Prop) (S : World → Prop) : Nat → Array Bool → Act → World → Prop
  | 0, listed, a, w => Region.ready md ops listed = [] ∧ Q .normal a w
  | fuel + 1, listed, a, w =>
    (Region.ready md ops listed = [] → Q .normal a w) ∧
    ∀ i ∈ Region.ready md ops listed, wpOp P ops Q i (fun a' w' => S w' ∧ wpAnyZ P md ops Q S fuel (listed.setIfInBounds i true) a' w') a w
theorem wpAny_of_Z : ∀ (fuel : Nat) (listed : Array Bool) (a : Act) (w : World), wpAnyZ P md ops Q S fuel listed a w → wpAny P md ops Q fuel listed a w
  | 0, _, _, _, h => h
  | fuel + 1, _, _, _, h => ⟨h.1, fun i hi => wpOp_mono (fun a' w' h' => wpAny_of_Z fuel _ a' w' h'.2) (h.2 i hi)⟩
theorem wpAnyZ_of_still {w : World} {K : Act → Prop} (hK : ∀ a, K a → Q .normal a w) (hS : S w) : ∀ (fuel : Nat) (listed : Array Bool) (a : Act), wpAnyS P md ops w K fuel listed a → wpAnyZ P md ops Q S fuel listed a w
  | 0, _, _, h => ⟨h.1, hK _ h.2⟩
  | fuel + 1, _, _, h => ⟨fun h0 => hK _ (h.1 h0), fun i hi => wpOp_of_stOp (fun a' h' => ⟨hS, wpAnyZ_of_still hK hS fuel _ a' h'⟩) (h.2 i hi)⟩

theorem wpAnyZ_first {i : Nat} {oi : Oper} {v : Value} (hi : ops[i]? = some oi) (hsel : ∀ (j : Nat) (o : Oper) cs b, ops[j]? = some o → o.op ≠ .select cs b)
    (hQ : ∀ c a w, Q (.panic c) (a.put oi.dst v) w → Q (.panic c) a w) :
    ∀ (fuel : Nat) (listed : Array Bool) (a : Act) (w : World),
      (∀ j oj, ops[j]? = some oj → j ≠ i → listed.getD j true = false → (∀ e ∈ oj.after, Region.binds md e = true → e.on ≠ i) → oi.apart ops oj = true) →
      i ∈ Region.ready md ops listed → YieldsIf P ops S oi v a → S w →
      wpAnyZ P md ops Q S fuel (listed.setIfInBounds i true) (a.put oi.dst v) w → wpAnyZ P md ops Q S (fuel + 1) listed a w := by
  intro fuel
  induction fuel with
  | zero =>
    intro listed a w _ hr hy hS H
    refine ⟨fun h => (by rw [h] at hr; cases hr), fun j hj => ?_⟩
    by_cases hji : j = i
    · subst hji; exact hy.wpOp hi hS ⟨hS, H⟩
    · have := ready_mono hj hji
      rw [H.1] at this
      cases this
  | succ fuel ih =>
    intro listed a w hfree hr hy hS H
    refine ⟨fun h => (by rw [h] at hr; cases hr), fun j hj => ?_⟩
    by_cases hji : j = i
    · subst hji; exact hy.wpOp hi hS ⟨hS, H⟩
    · have h1 := H.2 j (ready_mono hj hji)
      obtain ⟨hjun, oj, hoj, hall⟩ := mem_ready.1 hj
      have hnot : ∀ e ∈ oj.after, Region.binds md e = true → e.on ≠ i := fun e he hb heq => by
        have h1 := hall e he hb
        have h0 := (mem_ready.1 hr).1
        rw [heq, getD_both h0] at h1
        cases h1
      have h2 := wpOp_putIf hoj (hfree j oj hoj hji hjun hnot) (fun cs b => hsel i oi cs b hi) (fun cs b => hsel j oj cs b hoj) hQ hy h1
      have hfree' : ∀ k ok, ops[k]? = some ok → k ≠ i → (listed.setIfInBounds j true).getD k true = false →
          (∀ e ∈ ok.after, Region.binds md e = true → e.on ≠ i) → oi.apart ops ok = true := fun k ok hk hki hun hno => by
        refine hfree k ok hk hki ?_ hno
        by_cases hjk : j = k
        · subst hjk; exact hjun
        · rw [getD_set_ne true hjk] at hun; exact hun
      refine wpOp_mono (fun a' w' h3 => ⟨h3.2.1, ih (listed.setIfInBounds j true) a' w' hfree' (ready_mono hr (Ne.symm hji)) h3.1 h3.2.1 ?_⟩) h2
      rw [Array.setIfInBounds_comm _ _ hji]
      exact h3.2.2


/-- The takes, one by one, then what fin asks. -/
def heldZ (md : Region.Mode) (ops : Array Oper) (fin : Array Bool → Bool) : List Nat → Array Bool → Bool
  | [], listed => fin listed
  | k :: ks, listed => (Region.ready md ops listed).contains k && Region.free md ops listed k && heldZ md ops fin ks (listed.setIfInBounds k true)
theorem takes_Z (hT : Tame Q) (hsel : Region.noSelect ops = true) (A1 : Act) (fin : Array Bool → Bool) (w0 : World) (hS0 : S w0) : ∀ (H : List Nat) (l : List Oper) (listed : Array Bool) (a : Act) (fuel : Nat),
    H.map (ops[·]?) = l.map some → l.all (mildOp P) = true → slotsOk a.tmps.size l = true → heldZ md ops fin H listed = true →
    (∀ W, S W → wpList P ops (Taken A1 W) l a W) →
    (∀ listed', fin listed' = true → wpAnyZ P md ops Q S fuel listed' A1 w0) →
    wpAnyZ P md ops Q S (H.length + fuel) listed a w0 := by
  intro H
  induction H with
  | nil =>
    intro l listed a fuel hmap _ _ hok hW hfin
    obtain rfl : l = [] := by simpa using hmap
    have h := hW w0 hS0
    have h : Taken A1 w0 .normal a w0 := h
    rw [List.length_nil, Nat.zero_add, h.2.1]
    exact hfin listed hok
  | cons k H ih =>
    intro l listed a fuel hmap hmild hslots hok hW hfin
    obtain ⟨o, l', rfl⟩ : ∃ o l', l = o :: l' := by
      cases l with
      | nil => simp at hmap
      | cons o l' => exact ⟨o, l', rfl⟩
    simp only [List.map_cons, List.cons.injEq] at hmap
    obtain ⟨ho, hmap'⟩ := hmap
    rw [List.all_cons, Bool.and_eq_true] at hmild
    simp only [slotsOk, Bool.and_eq_true] at hslots
    obtain ⟨hs1, hs2⟩ := hslots
    obtain ⟨d, hd⟩ : ∃ d, o.dst = some d := by
      cases hod : o.dst with
      | none => rw [hod] at hs1; cases hs1
      | some d => exact ⟨d, rfl⟩
    rw [hd] at hs1
    have hs1 : (decide (d < a.tmps.size) && l'.all fun o' => o'.dst != some d) = true := hs1
    rw [Bool.and_eq_true, decide_eq_true_eq] at hs1
    obtain ⟨hdn, hrest⟩ := hs1
    have hrest' : ∀ o' ∈ l', o'.dst ≠ some d := fun o' ho' => by
      have := List.all_eq_true.1 hrest o' ho'
      simpa using this
    simp only [heldZ, Bool.and_eq_true] at hok
    obtain ⟨⟨hr, hf⟩, hok'⟩ := hok
    -- the value that it leaves
    obtain ⟨v, hv⟩ : ∃ v, A1.tmps[d]? = some v := by
      have hsz : A1.tmps.size = a.tmps.size := by
        have key : ∀ (l : List Oper) (a : Act) (w W : World), l.all (mildOp P) = true → wpList P ops (Taken A1 W) l a w → A1.tmps.size = a.tmps.size := by
          intro l
          induction l with
          | nil => intro a w W _ h; have h : Taken A1 W .normal a w := h; rw [h.2.1]
          | cons o l ih =>
            intro a w W hm h
            rw [List.all_cons, Bool.and_eq_true] at hm
            have hp : ∀ v, (a.put o.dst v).tmps.size = a.tmps.size := by
              intro v
              cases o.dst with
              | none => rfl
              | some d => show (a.tmps.setIfInBounds d v).size = _; simp
            unfold wpList at h
            split at h
            · rcases h with h | ⟨_, h⟩
              case inr => exact absurd h taken_tame.2
              unfold Oper.wp at h
              generalize hr : (execOp a.eval o).run P w = r at h
              cases r with
              | halt x w' =>
                cases x <;> simp only [Oper.upon] at h
                exact absurd h (taken_tame.1 _ _ _)
              | ok n w' =>
                obtain ⟨⟨v, rfl⟩, _⟩ := mildOp_run hm.1 hr
                simp only [Oper.upon] at h
                rw [ih _ _ _ hm.2 h, hp]
            · rw [ih _ _ _ hm.2 h, hp]
        exact key _ _ _ _ (by rw [List.all_cons, Bool.and_eq_true]; exact hmild) (hW w0 hS0)
      have hdn2 : d < a.tmps.size := hdn
      rw [← hsz] at hdn2
      exact ⟨A1.tmps[d]'hdn2, Array.getElem?_eq_getElem _⟩
    have hat : ∀ u : Value, (a.put o.dst u).tmps[d]? = some u := by
      intro u
      rw [hd]
      show (a.tmps.setIfInBounds d u)[d]? = _
      rw [Array.getElem?_setIfInBounds_self_of_lt hdn]
    -- at each world that meets S
    have each : ∀ W, S W → (Region.wanted o (yielded ops a.tmps) = true ∧ (execOp a.eval o).run P W = .ok (.value v) W ∨ Region.wanted o (yielded ops a.tmps) = false ∧ v = undef) ∧ wpList P ops (Taken A1 W) l' (a.put o.dst v) W := by
      intro W hSW
      have h := hW W hSW
      have hup := still_of_list (P := P) (ops := ops) (W := W) (K := fun _ => True) (Q' := Taken A1 W) taken_tame (fun a' w' h' => ⟨h'.2.2, trivial⟩)
      unfold wpList at h
      split at h
      · rename_i hw
        rcases h with h | ⟨_, h⟩
        case inr => exact absurd h taken_tame.2
        unfold Oper.wp at h
        generalize hr2 : (execOp a.eval o).run P W = r at h
        cases r with
        | halt x w' =>
          cases x <;> simp only [Oper.upon] at h
          exact absurd h (taken_tame.1 _ _ _)
        | ok n w' =>
          obtain ⟨⟨u, rfl⟩, hu⟩ := mildOp_run hmild.1 hr2
          simp only [Oper.upon] at h
          obtain rfl : w' = W := (hup l' _ w' hmild.2 hu h).1
          have := taken_keeps l' _ _ _ hmild.2 hrest' h
          rw [hat, hv] at this
          injection this with this
          subst this
          exact ⟨.inl ⟨hw, rfl⟩, h⟩
      · rename_i hw
        have := taken_keeps l' _ _ _ hmild.2 hrest' h
        rw [hat, hv] at this
        injection this with this
        subst this
        exact ⟨.inr ⟨by simpa using hw, rfl⟩, h⟩
    have hy : YieldsIf P ops S o v a := by
      rcases (each w0 hS0).1 with ⟨hw, _⟩ | ⟨hw, hu⟩
      · refine .inl ⟨hw, fun W hSW => ?_⟩
        rcases (each W hSW).1 with ⟨_, h2⟩ | ⟨h2, _⟩
        · exact h2
        · rw [hw] at h2; cases h2
      · exact .inr ⟨hw, hu⟩
    rw [List.length_cons, Nat.add_right_comm]
    refine wpAnyZ_first ho (Region.noSelect_spec hsel) (fun c a' w' hq => absurd hq (hT.1 _ _ _)) _ listed a w0 (Region.free_spec ho hf) (by simpa using hr) hy hS0 ?_
    refine ih l' _ _ fuel hmap' hmild.2 ?_ hok' (fun W hSW => (each W hSW).2) hfin
    rw [hd]
    show slotsOk (a.tmps.setIfInBounds d v).size l' = true
    rw [Array.size_setIfInBounds]
    exact hs2


/-- The forced order, then what fin asks. -/
def chainZ (md : Region.Mode) (ops : Array Oper) (fin : Array Bool → Bool) : List Nat → Array Bool → Bool
  | [], listed => fin listed
  | k :: ks, listed => decide (Region.ready md ops listed = [k]) && chainZ md ops fin ks (listed.setIfInBounds k true)
def chainW (P : Program) (ops : Array Oper) (Q : Exit → Act → World → Prop) (S : World → Prop) (K : Act → World → Prop) : List Oper → Act → World → Prop
  | [] => K
  | o :: l => wpList P ops (Holds P ops Q S (chainW P ops Q S K l)) [o]
theorem holds_wp {o : Oper} {next : Act → World → Prop} {a : Act} {w : World} {K : Act → World → Prop} (hK : ∀ a' w', S w' → next a' w' → K a' w') (hh : Oper.wp P o a w (wpList P ops (Holds P ops Q S next) []) (Holds P ops Q S next)) : Oper.wp P o a w K Q := by
  unfold Oper.wp at *
  generalize (execOp a.eval o).run P w = r at *
  cases r with
  | ok n w' =>
    cases n <;> simp only [Oper.upon] at hh ⊢
    case enter f args =>
      refine Calls.mono hh fun e w'' he => ?_
      cases e with
      | returned u => exact hK _ _ he.1 he.2
      | panicked c => exact he
      | outgrown => exact he
    case row row args => exact Rows.mono hh fun u w'' he => hK _ _ he.1 he.2
    all_goals exact hK _ _ hh.1 hh.2
  | halt x w' =>
    cases x <;> simp only [Oper.upon] at hh ⊢
    case panic u => exact hh
theorem chain_Z (fin : Array Bool → Bool) (K : Act → World → Prop) (fuel : Nat) (hfin : ∀ listed a w, fin listed = true → S w → K a w → wpAnyZ P md ops Q S fuel listed a w) : ∀ (T : List Nat) (l : List Oper) (listed : Array Bool) (a : Act) (w : World), T.map (ops[·]?) = l.map some →
    chainZ md ops fin T listed = true → S w → chainW P ops Q S K l a w → wpAnyZ P md ops Q S (T.length + fuel) listed a w := by
  intro T
  induction T with
  | nil =>
    intro l listed a w hl hc hS h
    obtain rfl : l = [] := by simpa using hl
    rw [List.length_nil, Nat.zero_add]
    exact hfin _ _ _ hc hS h
  | cons k T ih =>
    intro l listed a w hl hc hS h
    obtain ⟨o, l', rfl⟩ : ∃ o l', l = o :: l' := by
      cases l with
      | nil => simp at hl
      | cons o l' => exact ⟨o, l', rfl⟩
    simp only [List.map_cons, List.cons.injEq] at hl
    obtain ⟨ho, hl'⟩ := hl
    simp only [chainZ, Bool.and_eq_true, decide_eq_true_eq] at hc
    rw [List.length_cons, Nat.add_right_comm]
    refine ⟨fun h0 => (by rw [hc.1] at h0; cases h0), fun i hi => ?_⟩
    rw [hc.1] at hi
    obtain rfl : i = k := by simpa using hi
    have key : ∀ (a' : Act) (w' : World), S w' → chainW P ops Q S K l' a' w' → S w' ∧ wpAnyZ P md ops Q S (T.length + fuel) (listed.setIfInBounds i true) a' w' := fun a' w' hS' h' => ⟨hS', ih l' _ a' w' hl' hc.2 hS' h'⟩
    unfold wpOp
    simp only [ho]
    have h : wpList P ops (Holds P ops Q S (chainW P ops Q S K l')) [o] a w := h
    unfold wpList at h
    split
    · rename_i hw
      rw [if_pos hw] at h
      rcases h with h | h
      · exact .inl (holds_wp key h)
      · exact .inr ⟨h.1, h.2⟩
    · rename_i hw
      rw [if_neg hw] at h
      exact key _ _ h.1 h.2

def phaseB (P : Program) (n : Nat) (mask : List Bool) (l : List Oper) : Bool :=
  Region.noSelect l.toArray && (pick mask l).all (mildOp P) && slotsOk n (pick mask l) && (l.drop mask.length).all (mildOp P) &&
    heldZ .any l.toArray (fun L => chainZ .any l.toArray (fun L => Region.lexFrom .any l.toArray (l.drop mask.length).length mask.length L) (places (mask.map not) 0) L) (places mask 0) (Array.replicate l.toArray.size false) &&
    ((places mask 0).length + ((places (mask.map not) 0).length + (l.drop mask.length).length) == l.toArray.size)
/-- The mask tells of the first operations which are taken first (true) and which follow in their forced order (false); those behind them all only read. -/
theorem wp_phase {id : Nat} {a : Act} {w : World} {l : List Oper} (S : World → Prop) (mask : List Bool) (A1 : Act) (hm : P.follows .mixedOrders = true) (hlen : mask.length ≤ l.length)
    (hB : phaseB P a.tmps.size mask l = true) (hT : Tame Q) (hS : S w.drew) (hhead : ∀ W, S W → wpList P l.toArray (Taken A1 W) (pick mask l) a W)
    (htail : chainW P l.toArray Q S (fun a' w' => wpList P l.toArray (Headed P l.toArray Q [] w') (l.drop mask.length) a' w') (pick (mask.map not) l) A1 w.drew) : (Code.region id l.toArray true).wp P Q a w := by
  unfold phaseB at hB
  simp only [Bool.and_eq_true] at hB
  obtain ⟨⟨⟨⟨⟨h1, h2⟩, h3⟩, h4⟩, h5⟩, h6⟩ := hB
  refine wp_region_any hm (wpAny_of_Z (S := S) _ _ _ _ ?_)
  have hsz := (beq_iff_eq.1 h6).symm
  have := takes_Z (P := P) (Q := Q) (S := S) (md := .any) hT h1 A1 _ w.drew hS (places mask 0) (pick mask l) (Array.replicate l.toArray.size false) a ((places (mask.map not) 0).length + (l.drop mask.length).length) (pick_places mask l [] hlen) h2 h3 h5 hhead
    (fun listed' hc => chain_Z _ (fun a' w' => wpList P l.toArray (Headed P l.toArray Q [] w') (l.drop mask.length) a' w') _ (fun listed a w hf hS' hK =>
      wpAnyZ_of_still (K := fun a' => Q .normal a' w) (fun _ h => h) hS' _ _ _ (wpAnyS_lex h1 (l.drop mask.length) mask.length listed a (fun j => by simp) hf
        (still_of_list (W := w) (tame_headed hT) (fun a' w' h' => by obtain ⟨rfl, h2⟩ := (Headed.normal ▸ h' : _ ∧ _); exact ⟨rfl, h2⟩) _ _ _ h4 (.inl rfl) hK).2)) (places (mask.map not) 0) (pick (mask.map not) l) listed' A1 w.drew (pick_places (mask.map not) l [] (by simpa using hlen)) hc hS htail)
  rw [← hsz] at this
  exact this
theorem chain_step {S : World → Prop} {K : Act → World → Prop} {o : Oper} {l : List Oper} {a : Act} {w : World} (h : wpList P ops (Holds P ops Q S (chainW P ops Q S K l)) [o] a w) : chainW P ops Q S K (o :: l) a w := h
theorem chain_end {S : World → Prop} {K : Act → World → Prop} {a : Act} {w : World} (h : K a w) : chainW P ops Q S K [] a w := h
end
end Go.Proofs.YtfdgjbanajodfaaDoor
