/- A region that draws its order and holds a call: loads that the call leaves as they were are taken first, then what writes, in its forced order. -/
import Derived.Test.YtfdgjbanajodfaaDoorText
import Derived.OrdersHeld
set_option linter.unusedVariables false
set_option linter.unusedSimpArgs false
namespace Go.Proofs.YtfdgjbanajodfaaDoor
open Go.RowKit

section
variable {P : Program} {ops : Array Oper} {Q : Exit → Act → World → Prop} {md : Region.Mode} {S : World → Prop} {t : Nat}

/-- Whatever order is picked; S holds behind every operation but number t. -/
def wpAnyX (P : Program) (md : Region.Mode) (ops : Array Oper) (Q : Exit → Act → World → Prop) (S : World → Prop) (t : Nat) : Nat → Array Bool → Act → World → Prop
  | 0, listed, a, w => Region.ready md ops listed = [] ∧ Q .normal a w
  | fuel + 1, listed, a, w =>
    (Region.ready md ops listed = [] → Q .normal a w) ∧
    ∀ i ∈ Region.ready md ops listed, wpOp P ops Q i (fun a' w' => (i ≠ t → S w') ∧ wpAnyX P md ops Q S t fuel (listed.setIfInBounds i true) a' w') a w

theorem wpAny_of_X : ∀ (fuel : Nat) (listed : Array Bool) (a : Act) (w : World), wpAnyX P md ops Q S t fuel listed a w → wpAny P md ops Q fuel listed a w
  | 0, _, _, _, h => h
  | fuel + 1, _, _, _, h => ⟨h.1, fun i hi => wpOp_mono (fun a' w' h' => wpAny_of_X fuel _ a' w' h'.2) (h.2 i hi)⟩

/-- Number t waits for all that are taken first. -/
def lastB (md : Region.Mode) (ops : Array Oper) (t : Nat) (H : List Nat) : Bool := H.all fun i => Region.waitsFor md ops t i
theorem last_ready {listed : Array Bool} {i j : Nat} (hl : Region.waitsFor md ops t i = true) (hun : listed.getD i true = false) (hj : j ∈ Region.ready md ops listed) : j ≠ t := by
  intro e
  subst e
  obtain ⟨oj, hoj, e, he, hb, hon⟩ := Region.waitsFor_spec hl
  obtain ⟨_, o, ho, hall⟩ := mem_ready.1 hj
  have : o = oj := Option.some.inj (ho.symm.trans hoj)
  subst this
  have h2 := hall e he hb
  rw [hon, getD_both hun] at h2
  cases h2

theorem wpAnyX_first {i : Nat} {oi : Oper} {v : Value} (hi : ops[i]? = some oi) (hsel : ∀ (j : Nat) (o : Oper) cs b, ops[j]? = some o → o.op ≠ .select cs b)
    (hQ : ∀ c a w, Q (.panic c) (a.put oi.dst v) w → Q (.panic c) a w) (hl : Region.waitsFor md ops t i = true) :
    ∀ (fuel : Nat) (listed : Array Bool) (a : Act) (w : World),
      (∀ j oj, ops[j]? = some oj → j ≠ i → listed.getD j true = false → (∀ e ∈ oj.after, Region.binds md e = true → e.on ≠ i) → oi.apart ops oj = true) →
      i ∈ Region.ready md ops listed → YieldsIf P ops S oi v a → S w →
      wpAnyX P md ops Q S t fuel (listed.setIfInBounds i true) (a.put oi.dst v) w → wpAnyX P md ops Q S t (fuel + 1) listed a w := by
  intro fuel
  induction fuel with
  | zero =>
    intro listed a w _ hr hy hS H
    refine ⟨fun h => (by rw [h] at hr; cases hr), fun j hj => ?_⟩
    by_cases hji : j = i
    · subst hji; exact hy.wpOp hi hS ⟨fun _ => hS, H⟩
    · have := ready_mono hj hji
      rw [H.1] at this
      cases this
  | succ fuel ih =>
    intro listed a w hfree hr hy hS H
    refine ⟨fun h => (by rw [h] at hr; cases hr), fun j hj => ?_⟩
    by_cases hji : j = i
    · subst hji; exact hy.wpOp hi hS ⟨fun _ => hS, H⟩
    · have hjt : j ≠ t := last_ready hl (mem_ready.1 hr).1 hj
      have h1 := H.2 j (ready_mono hj hji)
      obtain ⟨hjun, oj, hoj, hall⟩ := mem_ready.1 hj
      have hnot : ∀ e ∈ oj.after, Region.binds md e = true → e.on ≠ i := fun e he hb heq => by
        have h1 := hall e he hb
        have h0 := (mem_ready.1 hr).1
        rw [heq, getD_both h0] at h1
        cases h1
      have h2 := wpOp_putIf hoj (hfree j oj hoj hji hjun hnot) (fun cs b => hsel i oi cs b hi) (fun cs b => hsel j oj cs b hoj) hQ hy h1
      have hfree' : ∀ k ok, ops[k]? = some ok → k ≠ i → (listed.setIfInBounds j true).getD k true = false →
          (∀ e ∈ ok.after, Region.binds md e = true → e.on ≠ i) → oi.apart ops ok = true := fun k ok hk hki hun hno => by
        refine hfree k ok hk hki ?_ hno
        by_cases hjk : j = k
        · subst hjk; exact hjun
        · rw [getD_set_ne true hjk] at hun; exact hun
      refine wpOp_mono (fun a' w' h3 => ⟨h3.2.1, ih (listed.setIfInBounds j true) a' w' hfree' (ready_mono hr (Ne.symm hji)) h3.1 (h3.2.1 hjt) ?_⟩) h2
      rw [Array.setIfInBounds_comm _ _ hji]
      exact h3.2.2

/-- The tail's forced order. -/
def chainOk (md : Region.Mode) (ops : Array Oper) : List Nat → Array Bool → Bool
  | [], listed => (Region.ready md ops listed).isEmpty
  | k :: ks, listed => decide (Region.ready md ops listed = [k]) && chainOk md ops ks (listed.setIfInBounds k true)
/-- The takes, one by one, then the tail. -/
def heldOk (P : Program) (md : Region.Mode) (ops : Array Oper) (t : Nat) (T : List Nat) : List Nat → Array Bool → Bool
  | [], listed => chainOk md ops T listed
  | k :: ks, listed => (Region.ready md ops listed).contains k && Region.free md ops listed k && (k != t) && heldOk P md ops t T ks (listed.setIfInBounds k true)

/-- Behind an operation of the tail: S holds, and so on. -/
def Holds (P : Program) (ops : Array Oper) (Q : Exit → Act → World → Prop) (S : World → Prop) (next : Act → World → Prop) : Exit → Act → World → Prop := fun e a w =>
  match e with
  | .normal => S w ∧ next a w
  | e => Q e a w
/-- The tail, one operation behind the other; behind the last one S is not asked. -/
def tailW (P : Program) (ops : Array Oper) (Q : Exit → Act → World → Prop) (S : World → Prop) : List Oper → Act → World → Prop
  | [] => fun a w => Q .normal a w
  | [o] => wpList P ops Q [o]
  | o :: o' :: l => wpList P ops (Holds P ops Q S (tailW P ops Q S (o' :: l))) [o]

theorem tail_X (hT : Tame Q) : ∀ (T : List Nat) (l : List Oper) (listed : Array Bool) (a : Act) (w : World), T.map (ops[·]?) = l.map some → (∀ k ∈ T.dropLast, k ≠ t) → chainOk md ops T listed = true → (T.getLast? = some t ∨ T = []) →
    tailW P ops Q S l a w → wpAnyX P md ops Q S t T.length listed a w := by
  intro T
  induction T with
  | nil =>
    intro l listed a w hl _ hc _ h
    obtain rfl : l = [] := by simpa using hl
    exact ⟨by simpa [chainOk] using hc, h⟩
  | cons k T ih =>
    intro l listed a w hl hne hc hlast h
    obtain ⟨o, l', rfl⟩ : ∃ o l', l = o :: l' := by
      cases l with
      | nil => simp at hl
      | cons o l' => exact ⟨o, l', rfl⟩
    simp only [List.map_cons, List.cons.injEq] at hl
    obtain ⟨ho, hl'⟩ := hl
    simp only [chainOk, Bool.and_eq_true, decide_eq_true_eq] at hc
    refine ⟨fun h0 => (by rw [hc.1] at h0; cases h0), fun i hi => ?_⟩
    rw [hc.1] at hi
    obtain rfl : i = k := by simpa using hi
    have key : ∀ (a' : Act) (w' : World), tailW P ops Q S l' a' w' → wpAnyX P md ops Q S t T.length (listed.setIfInBounds i true) a' w' := by
      intro a' w' h'
      refine ih l' _ a' w' hl' (fun k hk => hne k ?_) hc.2 ?_ h'
      · cases T with
        | nil => simp at hk
        | cons k' T' => simp only [List.dropLast_cons_cons]; exact List.mem_cons_of_mem _ hk
      · cases T with
        | nil => exact .inr rfl
        | cons k' T' =>
          rcases hlast with h1 | h1
          · exact .inl (by rw [List.getLast?_cons_cons] at h1; exact h1)
          · cases h1
    unfold wpOp
    simp only [ho]
    cases l' with
    | nil =>
      obtain rfl : T = [] := by simpa using hl'
      have hit : i = t := by
        rcases hlast with h1 | h1
        · simpa using h1
        · cases h1
      have h : wpList P ops Q [o] a w := h
      unfold wpList at h
      split
      · rename_i hw
        rw [if_pos hw] at h
        rcases h with h | h
        · exact .inl (Oper.wp_mono (fun a' w' h' => ⟨fun hne => absurd hit hne, key a' w' h'⟩) h)
        · exact .inr h
      · rename_i hw
        rw [if_neg hw] at h
        exact ⟨fun hne => absurd hit hne, key _ _ h⟩
    | cons o' l'' =>
      have h : wpList P ops (Holds P ops Q S (tailW P ops Q S (o' :: l''))) [o] a w := h
      unfold wpList at h
      have hwp : ∀ K : Act → World → Prop, (∀ a' w', Holds P ops Q S (tailW P ops Q S (o' :: l'')) .normal a' w' → K a' w') → Oper.wp P o a w (wpList P ops (Holds P ops Q S (tailW P ops Q S (o' :: l''))) []) (Holds P ops Q S (tailW P ops Q S (o' :: l''))) → Oper.wp P o a w K Q := by
        intro K hK hh
        unfold Oper.wp at *
        generalize (execOp a.eval o).run P w = r at *
        cases r with
        | ok n w' =>
          cases n <;> simp only [Oper.upon] at hh ⊢
          case enter f args =>
            refine Calls.mono hh fun e w'' he => ?_
            cases e with
            | returned u => exact hK _ _ he
            | panicked c => exact he
            | outgrown => exact he
          case row row args => exact Rows.mono hh fun u w'' he => hK _ _ he
          all_goals exact hK _ _ hh
        | halt x w' =>
          cases x <;> simp only [Oper.upon] at hh ⊢
          case panic u => exact hh
      split
      · rename_i hw
        rw [if_pos hw] at h
        rcases h with h | h
        · exact .inl (hwp _ (fun a' w' h' => ⟨fun _ => h'.1, key a' w' h'.2⟩) h)
        · exact .inr ⟨h.1, h.2⟩
      · rename_i hw
        rw [if_neg hw] at h
        exact ⟨fun _ => h.1, key _ _ h.2⟩

/-- Behind the takes: the frame is A1, nothing has turned. -/
def Taken (A1 : Act) (W : World) : Exit → Act → World → Prop := fun e a w => e = .normal ∧ a = A1 ∧ w = W

theorem taken_tame {A1 : Act} {W : World} : Tame (Taken A1 W) := ⟨fun c a w h => (by cases h.1), fun ⟨a, w, h⟩ => (by cases h.1)⟩

/-- What the takes leave in their slots. -/
theorem taken_keeps {A1 : Act} {d : Nat} : ∀ (l : List Oper) (a : Act) (w W : World), (l.all (mildOp P)) = true → (∀ o ∈ l, o.dst ≠ some d) → wpList P ops (Taken A1 W) l a w → A1.tmps[d]? = a.tmps[d]? := by
  intro l
  induction l with
  | nil => intro a w W _ _ h; have h : Taken A1 W .normal a w := h; rw [h.2.1]
  | cons o l ih =>
    intro a w W hm hd h
    rw [List.all_cons, Bool.and_eq_true] at hm
    have hput : ∀ v, (a.put o.dst v).tmps[d]? = a.tmps[d]? := by
      intro v
      have h1 := hd o (List.mem_cons_self ..)
      cases hod : o.dst with
      | none => rfl
      | some d' =>
        rw [hod] at h1
        show (a.tmps.setIfInBounds d' v)[d]? = _
        exact Array.getElem?_setIfInBounds_ne (fun e => h1 (by rw [e]))
    have hd' : ∀ o ∈ l, o.dst ≠ some d := fun o ho => hd o (List.mem_cons_of_mem _ ho)
    unfold wpList at h
    split at h
    · rcases h with h | ⟨_, h⟩
      case inr => exact absurd h taken_tame.2
      unfold Oper.wp at h
      generalize hr : (execOp a.eval o).run P w = r at h
      cases r with
      | halt x w' =>
        cases x <;> simp only [Oper.upon] at h
        exact absurd h (taken_tame.1 _ _ _)
      | ok n w' =>
        obtain ⟨⟨v, rfl⟩, _⟩ := mildOp_run hm.1 hr
        simp only [Oper.upon] at h
        rw [ih _ _ _ hm.2 hd' h, hput]
    · rw [ih _ _ _ hm.2 hd' h, hput]

/-- The slots of the takes: each once, within the frame. -/
def slotsOk (n : Nat) : List Oper → Bool
  | [] => true
  | o :: l => (match o.dst with | some d => decide (d < n) && l.all fun o' => o'.dst != some d | none => false) && slotsOk n l

theorem takes_X (hT : Tame Q) (hsel : Region.noSelect ops = true) (A1 : Act) (T : List Nat) (w0 : World) (hS0 : S w0) : ∀ (H : List Nat) (l : List Oper) (listed : Array Bool) (a : Act) (fuel : Nat),
    lastB md ops t H = true → H.map (ops[·]?) = l.map some → l.all (mildOp P) = true → slotsOk a.tmps.size l = true → heldOk P md ops t T H listed = true →
    (∀ W, S W → wpList P ops (Taken A1 W) l a W) →
    (∀ listed', chainOk md ops T listed' = true → wpAnyX P md ops Q S t fuel listed' A1 w0) →
    wpAnyX P md ops Q S t (H.length + fuel) listed a w0 := by
  intro H
  induction H with
  | nil =>
    intro l listed a fuel _ hmap _ _ hok hW hfin
    obtain rfl : l = [] := by simpa using hmap
    have h := hW w0 hS0
    have h : Taken A1 w0 .normal a w0 := h
    rw [List.length_nil, Nat.zero_add, h.2.1]
    exact hfin listed hok
  | cons k H ih =>
    intro l listed a fuel hl hmap hmild hslots hok hW hfin
    simp only [lastB, List.all_cons, Bool.and_eq_true] at hl
    obtain ⟨o, l', rfl⟩ : ∃ o l', l = o :: l' := by
      cases l with
      | nil => simp at hmap
      | cons o l' => exact ⟨o, l', rfl⟩
    simp only [List.map_cons, List.cons.injEq] at hmap
    obtain ⟨ho, hmap'⟩ := hmap
    rw [List.all_cons, Bool.and_eq_true] at hmild
    simp only [slotsOk, Bool.and_eq_true] at hslots
    obtain ⟨hs1, hs2⟩ := hslots
    obtain ⟨d, hd⟩ : ∃ d, o.dst = some d := by
      cases hod : o.dst with
      | none => rw [hod] at hs1; cases hs1
      | some d => exact ⟨d, rfl⟩
    rw [hd] at hs1
    have hs1 : (decide (d < a.tmps.size) && l'.all fun o' => o'.dst != some d) = true := hs1
    rw [Bool.and_eq_true, decide_eq_true_eq] at hs1
    obtain ⟨hdn, hrest⟩ := hs1
    have hrest' : ∀ o' ∈ l', o'.dst ≠ some d := fun o' ho' => by
      have := List.all_eq_true.1 hrest o' ho'
      simpa using this
    simp only [heldOk, Bool.and_eq_true] at hok
    obtain ⟨⟨⟨hr, hf⟩, hkt⟩, hok'⟩ := hok
    -- the value that it leaves
    obtain ⟨v, hv⟩ : ∃ v, A1.tmps[d]? = some v := by
      have hsz : A1.tmps.size = a.tmps.size := by
        have key : ∀ (l : List Oper) (a : Act) (w W : World), l.all (mildOp P) = true → wpList P ops (Taken A1 W) l a w → A1.tmps.size = a.tmps.size := by
          intro l
          induction l with
          | nil => intro a w W _ h; have h : Taken A1 W .normal a w := h; rw [h.2.1]
          | cons o l ih =>
            intro a w W hm h
            rw [List.all_cons, Bool.and_eq_true] at hm
            have hp : ∀ v, (a.put o.dst v).tmps.size = a.tmps.size := by
              intro v
              cases o.dst with
              | none => rfl
              | some d => show (a.tmps.setIfInBounds d v).size = _; simp
            unfold wpList at h
            split at h
            · rcases h with h | ⟨_, h⟩
              case inr => exact absurd h taken_tame.2
              unfold Oper.wp at h
              generalize hr : (execOp a.eval o).run P w = r at h
              cases r with
              | halt x w' =>
                cases x <;> simp only [Oper.upon] at h
                exact absurd h (taken_tame.1 _ _ _)
              | ok n w' =>
                obtain ⟨⟨v, rfl⟩, _⟩ := mildOp_run hm.1 hr
                simp only [Oper.upon] at h
                rw [ih _ _ _ hm.2 h, hp]
            · rw [ih _ _ _ hm.2 h, hp]
        exact key _ _ _ _ (by rw [List.all_cons, Bool.and_eq_true]; exact hmild) (hW w0 hS0)
      have hdn2 : d < a.tmps.size := hdn
      rw [← hsz] at hdn2
      exact ⟨A1.tmps[d]'hdn2, Array.getElem?_eq_getElem _⟩
    have hat : ∀ u : Value, (a.put o.dst u).tmps[d]? = some u := by
      intro u
      rw [hd]
      show (a.tmps.setIfInBounds d u)[d]? = _
      rw [Array.getElem?_setIfInBounds_self_of_lt hdn]
    -- at each world that meets S
    have each : ∀ W, S W → (Region.wanted o (yielded ops a.tmps) = true ∧ (execOp a.eval o).run P W = .ok (.value v) W ∨ Region.wanted o (yielded ops a.tmps) = false ∧ v = undef) ∧ wpList P ops (Taken A1 W) l' (a.put o.dst v) W := by
      intro W hSW
      have h := hW W hSW
      have hup := still_of_list (P := P) (ops := ops) (W := W) (K := fun _ => True) (Q' := Taken A1 W) taken_tame (fun a' w' h' => ⟨h'.2.2, trivial⟩)
      unfold wpList at h
      split at h
      · rename_i hw
        rcases h with h | ⟨_, h⟩
        case inr => exact absurd h taken_tame.2
        unfold Oper.wp at h
        generalize hr2 : (execOp a.eval o).run P W = r at h
        cases r with
        | halt x w' =>
          cases x <;> simp only [Oper.upon] at h
          exact absurd h (taken_tame.1 _ _ _)
        | ok n w' =>
          obtain ⟨⟨u, rfl⟩, hu⟩ := mildOp_run hmild.1 hr2
          simp only [Oper.upon] at h
          obtain rfl : w' = W := (hup l' _ w' hmild.2 hu h).1
          have := taken_keeps l' _ _ _ hmild.2 hrest' h
          rw [hat, hv] at this
          injection this with this
          subst this
          exact ⟨.inl ⟨hw, rfl⟩, h⟩
      · rename_i hw
        have := taken_keeps l' _ _ _ hmild.2 hrest' h
        rw [hat, hv] at this
        injection this with this
        subst this
        exact ⟨.inr ⟨by simpa using hw, rfl⟩, h⟩
    have hy : YieldsIf P ops S o v a := by
      rcases (each w0 hS0).1 with ⟨hw, _⟩ | ⟨hw, hu⟩
      · refine .inl ⟨hw, fun W hSW => ?_⟩
        rcases (each W hSW).1 with ⟨_, h2⟩ | ⟨h2, _⟩
        · exact h2
        · rw [hw] at h2; cases h2
      · exact .inr ⟨hw, hu⟩
    rw [List.length_cons, Nat.add_right_comm]
    refine wpAnyX_first ho (Region.noSelect_spec hsel) (fun c a' w' hq => absurd hq (hT.1 _ _ _)) hl.1 _ listed a w0 (Region.free_spec ho hf) (by simpa using hr) hy hS0 ?_
    refine ih l' _ _ fuel hl.2 hmap' hmild.2 ?_ hok' (fun W hSW => (each W hSW).2) hfin
    rw [hd]
    show slotsOk (a.tmps.setIfInBounds d v).size l' = true
    rw [Array.size_setIfInBounds]
    exact hs2

/-- The region: what H names is taken first (its loads read what S tells), then T in its order; the last of T may write what S tells of. -/
theorem wp_held {id : Nat} {a : Act} {w : World} {l : List Oper} (S : World → Prop) (t : Nat) (H T : List Nat) (lH lT : List Oper) (A1 : Act) (hm : P.follows .mixedOrders = true) (hT : Tame Q)
    (hH : H.map (l.toArray[·]?) = lH.map some) (hTl : T.map (l.toArray[·]?) = lT.map some)
    (hB : (Region.noSelect l.toArray && lastB .any l.toArray t H && lH.all (mildOp P) && slotsOk a.tmps.size lH && heldOk P .any l.toArray t T H (Array.replicate l.toArray.size false) && (T.getLast? == some t) && T.dropLast.all (· != t) && (H.length + T.length == l.toArray.size)) = true)
    (hS : S w.drew) (hhead : ∀ W, S W → wpList P l.toArray (Taken A1 W) lH a W) (htail : tailW P l.toArray Q S lT A1 w.drew) : (Code.region id l.toArray true).wp P Q a w := by
  simp only [Bool.and_eq_true] at hB
  obtain ⟨⟨⟨⟨⟨⟨⟨h1, h2⟩, h3⟩, h4⟩, h5⟩, h6⟩, h7⟩, h8⟩ := hB
  refine wp_region_any hm (wpAny_of_X (S := S) (t := t) _ _ _ _ ?_)
  have hsz : l.toArray.size = H.length + T.length := (beq_iff_eq.1 h8).symm
  show wpAnyX P .any l.toArray Q S t l.toArray.size (Array.replicate l.toArray.size false) a w.drew
  have := takes_X (P := P) (Q := Q) (S := S) (md := .any) hT h1 A1 T w.drew hS H lH (Array.replicate l.toArray.size false) a T.length h2 hH h3 h4 h5 hhead
    (fun listed' hc => tail_X hT T lT listed' A1 w.drew hTl (fun k hk => by have := List.all_eq_true.1 h7 k hk; simpa using this) hc (.inl (by simpa using h6)) htail)
  rw [← hsz] at this
  exact this
/-- Those of a list that a mask names, and their places. -/
def pick : List Bool → List Oper → List Oper
  | true :: m, o :: l => o :: pick m l
  | false :: m, _ :: l => pick m l
  | _, _ => []
def places : List Bool → Nat → List Nat
  | true :: m, k => k :: places m (k + 1)
  | false :: m, k => places m (k + 1)
  | [], _ => []
theorem pick_places : ∀ (m : List Bool) (l l0 : List Oper), m.length ≤ l.length → (places m l0.length).map ((l0 ++ l).toArray[·]?) = (pick m l).map some := by
  intro m
  induction m with
  | nil => intro l l0 _; cases l <;> rfl
  | cons b m ih =>
    intro l l0 h
    cases l with
    | nil => simp at h
    | cons o l =>
      have h2 := ih l (l0 ++ [o]) (by simpa using h)
      rw [List.append_assoc, List.length_append] at h2
      cases b
      · exact h2
      · show _ :: _ = _ :: _
        congr 1
        simp

def heldB (P : Program) (n : Nat) (mask : List Bool) (l : List Oper) : Bool :=
  Region.noSelect l.toArray && lastB .any l.toArray ((places (mask.map not) 0).getLastD 0) (places mask 0) && (pick mask l).all (mildOp P) && slotsOk n (pick mask l) && heldOk P .any l.toArray ((places (mask.map not) 0).getLastD 0) (places (mask.map not) 0) (places mask 0) (Array.replicate l.toArray.size false) && ((places (mask.map not) 0).getLast? == some ((places (mask.map not) 0).getLastD 0)) && (places (mask.map not) 0).dropLast.all (· != ((places (mask.map not) 0).getLastD 0)) && ((places mask 0).length + (places (mask.map not) 0).length == l.toArray.size)

theorem wp_held_mask {id : Nat} {a : Act} {w : World} {l : List Oper} (S : World → Prop) (mask : List Bool) (A1 : Act) (hm : P.follows .mixedOrders = true) (hlen : mask.length = l.length)
    (hB : heldB P a.tmps.size mask l = true) (hT : Tame Q)
    (hS : S w.drew) (hhead : ∀ W, S W → wpList P l.toArray (Taken A1 W) (pick mask l) a W) (htail : tailW P l.toArray Q S (pick (mask.map not) l) A1 w.drew) : (Code.region id l.toArray true).wp P Q a w := by
  unfold heldB at hB
  exact wp_held S _ (places mask 0) (places (mask.map not) 0) _ _ A1 hm hT (pick_places mask l [] (by omega)) (pick_places (mask.map not) l [] (by simp; omega)) hB hS hhead htail
theorem tail_step {S : World → Prop} {o o' : Oper} {l : List Oper} {a : Act} {w : World} (h : wpList P ops (Holds P ops Q S (tailW P ops Q S (o' :: l))) [o] a w) : tailW P ops Q S (o :: o' :: l) a w := h
theorem tail_last {S : World → Prop} {o : Oper} {a : Act} {w : World} (h : wpList P ops Q [o] a w) : tailW P ops Q S [o] a w := h
theorem holds {S : World → Prop} {K : Act → World → Prop} {a : Act} {w : World} (hS : S w) (h : K a w) : Holds P ops Q S K .normal a w := ⟨hS, h⟩
theorem taken {A1 : Act} {W : World} : Taken A1 W .normal A1 W := ⟨rfl, rfl, rfl⟩
end
end Go.Proofs.YtfdgjbanajodfaaDoor
