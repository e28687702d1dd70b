/- A region that draws its order, whose head only reads: it may be walked in the order of its text, as any other region. -/
import Derived.Test.YtfdgjbanajodfaaDoorMild
set_option linter.unusedVariables false
set_option linter.unusedSimpArgs false
namespace Go.Proofs.YtfdgjbanajodfaaDoor
open Go.RowKit

def isInt (P : Program) (t : TypeId) : Bool := match P.underlying t with | some (.int _) => true | _ => false
def isArr (P : Program) (t : TypeId) : Bool := match P.underlying t with | some (.array ..) => true | _ => false
/-- Kinds of operations that write nothing. -/
def mildOp (P : Program) (o : Oper) : Bool :=
  match o.op with
  | .move _ | .assign _ | .pick .. | .load .. | .nilCheck _ | .binOp .. | .unOp .. | .slice .. | .fieldAddr .. | .field .. | .indexAddr .. | .index .. | .lookup .. | .extract .. => true
  | .convert s d _ => isInt P s && isInt P d
  | .build t _ => isArr P t
  | .call { callee := .builtin .len, .. } | .call { callee := .builtin .max, .. } | .call { callee := .builtin .min, .. } => true
  | _ => false

theorem mild_followBlind : (l : List FieldStep) → (t : TypeId) → (x : Option Value) → Mild T_ (followBlind l t x)
  | [], _, _ => by unfold followBlind; exact trivial
  | s :: rest, _, x => by
    unfold followBlind
    repeat' (first
      | (with_reducible exact Mild.pure_ trivial) | (with_reducible exact mild_underlying ..) | (with_reducible exact mild_stuck ..) | (with_reducible exact mild_part ..)
      | (with_reducible exact mild_followBlind rest ..)
      | refine Mild.bind ?_ ?_ | intro _ | split | (dsimp only) | (exact trivial))
theorem mild_nilAhead : (d : Nat) → (t : TypeId) → (v : Value) → (s : String) → Mild T_ (nilAhead d t v s)
  | 0, _, _, _ => by unfold nilAhead; exact trivial
  | d + 1, t, v, s => by
    unfold nilAhead
    repeat' (first
      | (with_reducible exact Mild.pure_ trivial) | (with_reducible exact mild_underlying ..) | (with_reducible exact mild_typeInfo ..) | (with_reducible exact mild_stuck ..) | (with_reducible exact mild_followBlind ..)
      | (with_reducible exact mild_nilAhead d ..)
      | refine Mild.bind ?_ ?_ | intro _ | split | (dsimp only) | (exact trivial))

/-- What such an operation leaves: a value. -/
def Plain (n : Next) : Prop := ∃ v, n = .value v
theorem mild_value {s : Sem Value} (hs : Mild T_ s) : Mild Plain (s >>= fun x => Pure.pure (.value x)) := hs.bind' fun v _ => ⟨v, rfl⟩

set_option maxHeartbeats 400000 in
theorem mildOp_run {P : Program} {o : Oper} {ρ : Operand → Value} {w w' : World} {n : Next} (h : mildOp P o = true) (hr : (execOp ρ o).run P w = .ok n w') : Plain n ∧ Up w w' := by
  obtain ⟨dst, op, type, pos, after, guard⟩ := o
  cases op
  case convert s d x =>
    have h : (isInt P s && isInt P d) = true := h
    rw [Bool.and_eq_true] at h
    obtain ⟨h1, h2⟩ := h
    unfold isInt at h1 h2
    split at h1
    case h_2 => cases h1
    rename_i k hk
    split at h2
    case h_2 => cases h2
    rename_i k2 hk2
    have hr : (convert s d (ρ x) >>= fun v => Pure.pure (Next.value v)).run P w = .ok n w' := hr
    refine Mild.run (g := Plain) (s := (match ρ x with
      | .int _ n => Conv.intToInt k2 n
      | .float s b => Conv.floatToInt s b k2
      | .pointer (some _) => unsupported .addressObserved
      | _ => unsupported (.noEntry "convert/other")) >>= fun v => Pure.pure (Next.value v)) ?_ (P := P) (w := w) ?_
    · refine mild_value ?_
      split
      · exact mild_intToInt ..
      · unfold Conv.floatToInt
        repeat' (first | (with_reducible exact Mild.pure_ trivial) | (with_reducible exact mild_choose ..) | (with_reducible exact mild_stuck ..) | refine Mild.bind ?_ ?_ | intro _ | split | (dsimp only) | (exact trivial))
      · exact trivial
      · exact trivial
    · rw [← hr]
      simp only [Sem.run_bind, convert, run_underlying hk, run_underlying hk2, Result.andThen_ok]
      cases ρ x <;> try rfl
      rename_i a
      cases a <;> rfl
  case build t parts =>
    have h : isArr P t = true := h
    unfold isArr at h
    split at h
    case h_2 => cases h
    rename_i m e hk
    have hr : (Instr.build t (parts.map fun (i, x) => (i, ρ x)) >>= fun v => Pure.pure (Next.value v)).run P w = .ok n w' := hr
    refine Mild.run (g := Plain) (s := (zeroValue t >>= fun z => sizeOf e >>= fun size => match Instr.fill (fun i => some (i * size, size)) z.cells (parts.map fun (i, x) => (i, ρ x)).toList with
      | some cells => Pure.pure (Value.agg cells)
      | none => stuck "build: a part of the wrong size") >>= fun v => Pure.pure (Next.value v)) ?_ (P := P) (w := w) ?_
    · refine mild_value (Mild.bind (mild_zeroValue _) fun z => Mild.bind (mild_sizeOf _) fun size => ?_)
      split
      · exact trivial
      · exact trivial
    · rw [← hr]
      simp only [Sem.run_bind, Instr.build, run_underlying hk, Result.andThen_ok]
      cases (zeroValue t).run P w with
      | ok z w1 =>
        simp only [Result.andThen_ok, run_underlying hk, Sem.run_bind]
        cases (sizeOf e).run P w1 with
        | ok size w2 =>
          simp only [Result.andThen_ok]
          simp only [Array.toList_map]
          split <;> (rename_i hc; rw [hc])
        | _ => rfl
      | _ => rfl
  case move x => exact Mild.run (g := Plain) (s := Pure.pure (Next.value (ρ x))) ⟨_, rfl⟩ hr
  case assign x => exact Mild.run (g := Plain) (s := Pure.pure (Next.value (ρ x))) ⟨_, rfl⟩ hr
  case pick c a b => exact Mild.run (g := Plain) (s := asBool (ρ c) >>= fun q => Pure.pure (Next.value (if q then ρ a else ρ b))) ((mild_asBool _).bind' fun q _ => ⟨_, rfl⟩) hr
  case load t x => exact Mild.run (mild_value (mild_loadAt t (ρ x))) hr
  case unOp op t x => exact Mild.run (mild_value (mild_unary op (ρ x))) hr
  case slice t x a b c => exact Mild.run (mild_value (mild_sliceAt t (ρ x) (a.map ρ) (b.map ρ) (c.map ρ))) hr
  case fieldAddr t x f => exact Mild.run (mild_value (mild_fieldAt t (ρ x) f)) hr
  case field t x f => exact Mild.run (mild_value (mild_field t (ρ x) f)) hr
  case indexAddr t x i => exact Mild.run (mild_value (mild_indexAt t (ρ x) (ρ i))) hr
  case index t x i => exact Mild.run (mild_value (mild_index t (ρ x) (ρ i))) hr
  case lookup t x i ok => exact Mild.run (mild_value (mild_lookup t (ρ x) (ρ i) ok)) hr
  case extract x i => exact Mild.run (mild_value (mild_extract (ρ x) i)) hr
  case binOp op t x y yt => exact Mild.run (mild_value (s := eqGuard op t x y (ρ x) (ρ y) >>= fun _ => binOp op t (ρ x) (ρ y)) (Mild.bind (mild_eqGuard ..) fun _ => mild_binOp ..)) hr
  case nilCheck x =>
    refine Mild.run ?_ hr
    unfold execOp
    dsimp only
    split
    all_goals first
      | (with_reducible exact mild_runtimePanic ..)
      | ((with_reducible refine Mild.pure_ ?_); exact ⟨_, rfl⟩)
      | (split
         all_goals first
           | (with_reducible exact mild_runtimePanic ..)
           | ((with_reducible refine Mild.pure_ ?_); exact ⟨_, rfl⟩)
           | (refine Mild.bind mild_program fun p => Mild.bind (mild_nilAhead ..) fun b => ?_
              split
              all_goals first
                | ((with_reducible refine Mild.pure_ ?_); exact ⟨_, rfl⟩)
                | (refine Mild.bind (mild_unsupported _) fun _ => ?_
                   exact ⟨_, rfl⟩)))
  case call c =>
    obtain ⟨callee, args, ts⟩ := c
    cases callee
    case builtin b =>
      cases b
      case len => exact Mild.run (mild_value (mild_len ts type (args.map ρ))) hr
      case max => exact Mild.run (mild_value (mild_max ts type (args.map ρ))) hr
      case min => exact Mild.run (mild_value (mild_min ts type (args.map ρ))) hr
      all_goals cases h
    all_goals cases h
  all_goals cases h

/-- Behind the code nothing panics, nor grows beyond the room. -/
def Tame (Q : Exit → Act → World → Prop) : Prop := (∀ c a w, ¬ Q (.panic c) a w) ∧ ¬ LetsOut Q

section
variable {P : Program} {ops : Array Oper} {Q : Exit → Act → World → Prop}

/-- Behind the head: nothing has turned. -/
def Headed (P : Program) (ops : Array Oper) (Q : Exit → Act → World → Prop) (tail : List Oper) (W : World) : Exit → Act → World → Prop := fun e a w =>
  match e with
  | .normal => w = W ∧ wpList P ops Q tail a w
  | e => Q e a w
theorem Headed.normal {tail : List Oper} {W w : World} {a : Act} : Headed P ops Q tail W .normal a w = (w = W ∧ wpList P ops Q tail a w) := rfl

theorem still_of_list {W : World} {K : Act → Prop} {Q' : Exit → Act → World → Prop} (hT : Tame Q') (hK : ∀ a w, Q' .normal a w → w = W ∧ K a) : ∀ (l : List Oper) (a : Act) (w : World), l.all (mildOp P) = true → Up W w → wpList P ops Q' l a w →
    w = W ∧ wpStill P ops W K l a := by
  intro l
  induction l with
  | nil =>
    intro a w _ _ h
    exact ⟨(hK a w h).1, (hK a w h).2⟩
  | cons o l ih =>
    intro a w hl hup h
    rw [List.all_cons, Bool.and_eq_true] at hl
    unfold wpList at h
    unfold wpStill
    split at h
    · rename_i hw
      rw [if_pos hw]
      rcases h with h | ⟨_, h⟩
      case inr => exact absurd h hT.2
      unfold Oper.wp at h
      unfold Oper.still
      generalize hr : (execOp a.eval o).run P w = r at h
      cases r with
      | halt x w' =>
        cases x <;> simp only [Oper.upon] at h
        exact absurd h (hT.1 _ _ _)
      | ok n w' =>
        obtain ⟨hp, hup2⟩ := mildOp_run hl.1 hr
        obtain ⟨v, rfl⟩ := hp
        simp only [Oper.upon] at h
        obtain ⟨rfl, h2⟩ := ih _ _ hl.2 (hup.trans hup2) h
        obtain rfl := hup.back hup2
        exact ⟨rfl, by rw [hr]; exact ⟨rfl, h2⟩⟩
    · rename_i hw
      rw [if_neg hw]
      exact ih _ _ hl.2 hup h

theorem tame_headed {tail : List Oper} {W : World} (hT : Tame Q) : Tame (Headed P ops Q tail W) :=
  ⟨fun c a w h => hT.1 c a w h, fun ⟨a, w, h⟩ => hT.2 ⟨a, w, h⟩⟩

/-- The region in the order of its text: the head (n operations) reads, the tail's order is forced. -/
theorem wp_text {id : Nat} {a : Act} {w : World} {l : List Oper} (n : Nat) (hm : P.follows .mixedOrders = true) (hB : Region.lexTailB .any l.toArray n = true) (hk : (l.take n).all (mildOp P) = true) (hT : Tame Q)
    (h : wpList P l.toArray (Headed P l.toArray Q (l.drop n) w.drew) (l.take n) a w.drew) : (Code.region id l.toArray true).wp P Q a w := by
  refine wp_region_still_tail n hm hB ?_
  exact (still_of_list (W := w.drew) (tame_headed hT) (fun a' w' h' => by obtain ⟨rfl, h2⟩ := (Headed.normal ▸ h' : _ ∧ _); exact ⟨rfl, h2⟩) _ _ _ hk (.inl rfl) h).2
/-- .. all of it reads. -/
theorem wp_text_all {id : Nat} {a : Act} {w : World} {l : List Oper} (hm : P.follows .mixedOrders = true) (hB : Region.lexB .any l.toArray = true) (hk : l.all (mildOp P) = true) (hT : Tame Q)
    (h : wpList P l.toArray (Headed P l.toArray Q [] w.drew) l a w.drew) : (Code.region id l.toArray true).wp P Q a w := by
  refine wp_region_still_lit hm hB ?_
  exact (still_of_list (W := w.drew) (tame_headed hT) (fun a' w' h' => by obtain ⟨rfl, h2⟩ := (Headed.normal ▸ h' : _ ∧ _); exact ⟨rfl, h2⟩) _ _ _ hk (.inl rfl) h).2
theorem headed {tail : List Oper} {W : World} {a : Act} (h : wpList P ops Q tail a W) : Headed P ops Q tail W .normal a W := ⟨rfl, h⟩

theorem tame_body {fn : Func} {R : Ending → World → Prop} (h : ∀ e w, R e w → ∃ v, e = .returned v) : Tame (bodyPost P fn R) :=
  ⟨fun c a w hq => (by obtain ⟨_, hr⟩ := hq; obtain ⟨v, hv⟩ := h _ _ hr; cases hv), fun ⟨a, w, hq⟩ => (by obtain ⟨v, hv⟩ := h _ _ hq; cases hv)⟩
theorem tame_then {K : Act → World → Prop} (h : Tame Q) : Tame (Exit.then K Q) := ⟨fun c a w hq => h.1 c a w hq, fun ⟨a, w, hq⟩ => h.2 ⟨a, w, hq⟩⟩
theorem tame_block {id : Nat} (h : Tame Q) : Tame (Exit.inBlock id Q) := ⟨fun c a w hq => h.1 c a w hq, fun ⟨a, w, hq⟩ => h.2 ⟨a, w, hq⟩⟩
theorem tame_scope (h : Tame Q) : Tame (Exit.noGoto Q) := ⟨fun c a w hq => h.1 c a w hq, fun ⟨a, w, hq⟩ => h.2 ⟨a, w, hq⟩⟩
/-- What a call gives back, in one form. -/
def Gives (S : Value → World → Prop) (e : Ending) (w : World) : Prop := ∃ v, e = .returned v ∧ S v w
theorem tame_gives {fn : Func} {S : Value → World → Prop} : Tame (bodyPost P fn (Gives S)) := tame_body fun _ _ ⟨v, h, _⟩ => ⟨v, h⟩
end
end Go.Proofs.YtfdgjbanajodfaaDoor
