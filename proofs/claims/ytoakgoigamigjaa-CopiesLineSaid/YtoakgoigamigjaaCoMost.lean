/- One that writes at the end, and reaches all it can: what it leaves. -/
import Derived.Test.YtoakgoigamigjaaCoMath
import Derived.Test.YtoakgoigamigjaaMvApp
set_option linter.unusedVariables false
set_option linter.unusedSimpArgs false
namespace Go.Proofs.Ytoakgoigamigjaa
open Go.RowKit

theorem coE_congr {n : Nat} {M M' : Mv} {q : Nat} (h : ∀ j, j < q → M.k j = M'.k j ∧ M.f j = M'.f j ∧ M.t j = M'.t j ∧ M.v j = M'.v j) : ∀ j, j ≤ q → coE n M j = coE n M' j
  | 0, _ => rfl
  | j + 1, hj => by
    obtain ⟨a, b, c, d⟩ := h j (by omega)
    rw [coE, coE, coE_congr h j (by omega), a, b, c, d]
theorem coE_push (n : Nat) (M : Mv) (q : Nat) (k f t v : Int) : coE n (M.push q k f t v) (q + 1) = (doS n k f t v q (coE n M q)).2 := by
  have he : coE n (M.push q k f t v) q = coE n M q := coE_congr (q := q) (fun j hj => push_other M q k f t v (j := j) (by omega)) q (Nat.le_refl _)
  obtain ⟨a, b, c, d⟩ := push_at M q k f t v
  rw [coE, he, a, b, c, d]

theorem r2_shape (i to : Nat) (s : CS) : (∀ k, k ≠ i → (r2S i to s).cl k = s.cl k) ∧ ((r2S i to s).cl i).beg = (s.cl i).beg ∧ ((r2S i to s).cl i).wr = (s.cl i).wr ∧ ((r2S i to s).cl i).val = (s.cl i).val ∧ ((r2S i to s).cl i).part = (s.cl i).part ∧ ((r2S i to s).cl i).rch = (s.cl i).rch ∧ ((r2S i to s).cl i).many = (s.cl i).many ∧ (r2S i to s).ops = s.ops ∧ (r2S i to s).fl = s.fl := by
  unfold r2S
  split
  · refine ⟨fun k hk => if_neg hk, ?_, ?_, ?_, ?_, ?_, ?_, rfl, rfl⟩ <;> rw [setC_self]
  · split <;> exact ⟨fun _ _ => rfl, rfl, rfl, rfl, rfl, rfl, rfl, rfl, rfl⟩
theorem r1_shape (i to : Nat) (s : CS) : (∀ k, k ≠ i → (r1S i to s).cl k = s.cl k) ∧ (r1S i to s).ops = s.ops := ⟨fun k hk => if_neg hk, rfl⟩
theorem r3_shape (n i now : Nat) (s : CS) : (∀ k, k ≠ i → (r3S n i now s).cl k = s.cl k) ∧ ((r3S n i now s).cl i).beg = (s.cl i).beg ∧ ((r3S n i now s).ops = s.ops ∨ (r3S n i now s).ops = s.ops ++ [⟨i, (s.cl i).beg, now, (s.cl i).wr, (s.cl i).bv⟩]) := by
  unfold r3S
  split
  · exact ⟨fun _ _ => rfl, rfl, .inl rfl⟩
  split
  · split
    · exact ⟨fun k hk => if_neg hk, by rw [setC_self], .inl rfl⟩
    · exact ⟨fun k hk => if_neg hk, by rw [setC_self], .inl rfl⟩
  · exact ⟨fun k hk => if_neg hk, by show ((setC s i _).cl i).beg = _; rw [setC_self], .inr rfl⟩
theorem reach_shape (n i to now : Nat) (s : CS) : (∀ k, k ≠ i → (reachS n i to now s).cl k = s.cl k) ∧ ((reachS n i to now s).cl i).beg = (s.cl i).beg ∧ ((reachS n i to now s).ops = s.ops ∨ ∃ b v, (reachS n i to now s).ops = s.ops ++ [⟨i, (s.cl i).beg, now, b, v⟩]) := by
  unfold reachS
  obtain ⟨a1, a2⟩ := r1_shape i to s
  obtain ⟨b1, b2, _, _, _, _, _, b3, _⟩ := r2_shape i to (r1S i to s)
  obtain ⟨c1, c2, c3⟩ := r3_shape n i now (r2S i to (r1S i to s))
  have h1 : ((r1S i to s).cl i).beg = (s.cl i).beg := by rw [r1_cl]
  refine ⟨fun k hk => by rw [c1 k hk, b1 k hk, a1 k hk], by rw [c2, b2, h1], ?_⟩
  rcases c3 with h | h
  · exact .inl (by rw [h, b3, a2])
  · exact .inr ⟨_, _, by rw [h, b3, a2, b2, h1]⟩
/-- What was begun, was begun before. -/
def EB (j : Nat) (s : CS) : Prop := (∀ o, o ∈ s.ops → o.bg < j) ∧ ∀ i, 0 < (s.cl i).part → (s.cl i).beg < j
theorem EB.step {n j : Nat} {s s' : CS} (h : EB j s) (hs : Step n j s s') : EB (j + 1) s' := by
  have up : EB (j + 1) s := ⟨fun o ho => by have := h.1 o ho; omega, fun i hi => by have := h.2 i hi; omega⟩
  cases hs with
  | same => exact up
  | fail t ht => exact up
  | begin_ f hf v h0 =>
    refine ⟨up.1, fun i hi => ?_⟩
    rw [setC_cl] at hi ⊢
    split
    · show j < j + 1; omega
    · rename_i e; rw [if_neg e] at hi; exact up.2 i hi
  | reach f t hf ht h0 hr =>
    obtain ⟨h1, h2, h3⟩ := reach_shape n f t j s
    have hb := h.2 f (by omega)
    refine ⟨fun o ho => ?_, fun i hi => ?_⟩
    · rcases h3 with h3 | ⟨b, v, h3⟩
      · rw [h3] at ho; exact up.1 o ho
      · rw [h3, List.mem_append, List.mem_singleton] at ho
        rcases ho with ho | rfl
        · exact up.1 o ho
        · show (s.cl f).beg < j + 1; omega
    · by_cases e : i = f
      · subst e; rw [h2]; omega
      · rw [h1 i e] at hi ⊢; exact up.2 i hi
theorem EB.all (n : Nat) (M : Mv) : ∀ j, EB j (coE n M j)
  | 0 => ⟨fun o ho => (nomatch ho), fun i hi => absurd hi (Nat.lt_irrefl 0)⟩
  | j + 1 => (EB.all n M j).step (doS_step ..)

def NoOp (L : Nat) (l : List Opr) : Prop := ∀ o, o ∈ l → o.bg ≠ L
/-- It is at it. -/
structure AtIt (n L : Nat) (v : Int) (s : CS) : Prop where
  no : NoOp L s.ops
  beg : (s.cl 5).beg = L
  wr : (s.cl 5).wr = true
  val : (s.cl 5).val = v
  part : (s.cl 5).part = 1 ∨ (s.cl 5).part = 2
  rch : (s.cl 5).rch < 2 ^ n
  many : (s.cl 5).many = pop (s.cl 5).rch
  put : (s.cl 5).part = 2 → 0 < (s.cl 5).bs ∧ (s.cl 5).bv = v ∧ ∀ a, (s.cl 5).rch.testBit a = true → 0 < s.S a
def Done (n L : Nat) (v : Int) (l : List Opr) (S : Nat → Nat) : Prop := ∃ l0 e, l = l0 ++ [⟨5, L, e, true, v⟩] ∧ NoOp L l0 ∧ ∃ Q, Q < 2 ^ n ∧ n < 2 * pop Q ∧ ∀ a, Q.testBit a = true → 0 < S a
def MP (n L : Nat) (v : Int) (s : CS) : Prop := (NoOp L s.ops ∧ (s.cl 5).beg ≠ L) ∨ AtIt n L v s ∨ ((s.cl 5).part = 0 ∧ Done n L v s.ops s.S)
theorem mp_open {n L : Nat} {v : Int} {s : CS} (h : EB L s) (hv : 0 ≤ v) : MP n L v (doS n 1 5 0 v L s).2 := by
  have e0 : doS n 1 5 0 v L s = if 0 < (s.cl 5).part then (7, s) else (0, setC s 5 (openC L v)) := rfl
  rw [e0]
  split
  · rename_i hp
    exact .inl ⟨fun o ho => by have := h.1 o ho; omega, by have := h.2 5 hp; show (s.cl 5).beg ≠ L; omega⟩
  · refine .inr (.inl ⟨fun o ho => by have := h.1 o ho; omega, ?_, ?_, ?_, ?_, ?_, ?_, ?_⟩) <;> show _ <;> (try rw [setC_self])
    · rfl
    · exact decide_eq_true hv
    · show max v 0 = v; omega
    · exact .inl rfl
    · exact Nat.two_pow_pos n
    · exact pop_zero.symm
    · intro hh; cases hh
theorem mp_reach {n L t now : Nat} {v : Int} {s : CS} (ht : t < 6) (h : MP n L v s) : MP n L v (doS n 2 5 t v now s).2 := by
  have e0 : doS n 2 5 t v now s = if copiedB n t = false then (2, s) else if (s.cl 5).part = 0 then (7, s) else if (s.cl 5).rch.testBit t then (8, s) else if s.fl.testBit t then (5, s) else (0, reachS n 5 t now s) := by
    unfold doS
    rw [if_neg (by omega)]
    by_cases hc : copiedB n t = false
    · rw [if_pos (.inr ⟨by omega, hc⟩), if_pos hc]
    · rw [if_neg (fun hh => by
        rcases hh with hh | hh
        · exact absurd hh.2 (by decide)
        · exact hc hh.2), if_neg hc, if_neg (by omega), if_neg (by omega)]
      rfl
  rw [e0]
  split
  · exact h
  rename_i hcp
  have htn : t < n := by
    have : copiedB n t = true := by simpa using hcp
    unfold copiedB at this; simp at this; exact this
  split
  · exact h
  rename_i hp0
  split
  · exact h
  rename_i hr
  split
  · exact h
  have hr : (s.cl 5).rch.testBit t = false := by simpa using hr
  show MP n L v (reachS n 5 t now s)
  rcases h with ⟨h1, h2⟩ | h | ⟨h, _⟩
  · obtain ⟨_, x2, x3⟩ := reach_shape n 5 t now s
    refine .inl ⟨fun o ho => ?_, by rw [x2]; exact h2⟩
    rcases x3 with x3 | ⟨b, u, x3⟩
    · rw [x3] at ho; exact h1 o ho
    · rw [x3, List.mem_append, List.mem_singleton] at ho
      rcases ho with ho | rfl
      · exact h1 o ho
      · exact h2
  · obtain ⟨b1, b2, b3, b4, b5, b6, b7, b8, b9⟩ := r2_shape 5 t (r1S 5 t s)
    rw [r1_cl] at b2 b3 b4 b5 b6 b7
    have c2 : ((r2S 5 t (r1S 5 t s)).cl 5).beg = L := b2.trans h.beg
    have c3 : ((r2S 5 t (r1S 5 t s)).cl 5).wr = true := b3.trans h.wr
    have c4 : ((r2S 5 t (r1S 5 t s)).cl 5).val = v := b4.trans h.val
    have c8 : NoOp L (r2S 5 t (r1S 5 t s)).ops := by rw [b8]; exact h.no
    have hrl : ((r2S 5 t (r1S 5 t s)).cl 5).rch < 2 ^ n := by rw [b6]; exact or_lt h.rch htn
    have hm : ((r2S 5 t (r1S 5 t s)).cl 5).many = pop ((r2S 5 t (r1S 5 t s)).cl 5).rch := by
      rw [b7, b6]
      show _ + 1 = _
      rw [pop_or (by omega) hr, h.many]
    have hp2 : ((r2S 5 t (r1S 5 t s)).cl 5).part = 2 → 0 < ((r2S 5 t (r1S 5 t s)).cl 5).bs ∧ ((r2S 5 t (r1S 5 t s)).cl 5).bv = v ∧ ∀ a, ((r2S 5 t (r1S 5 t s)).cl 5).rch.testBit a = true → 0 < (r2S 5 t (r1S 5 t s)).S a := by
      intro hh
      have hq : (s.cl 5).part = 2 := b5.symm.trans hh
      clear hh
      obtain ⟨d1, d2, d3⟩ := h.put hq
      have e1 : ¬ (((r1S 5 t s).cl 5).part = 1 ∧ ((r1S 5 t s).cl 5).bs < (r1S 5 t s).S t) := by rw [r1_cl]; show ¬ ((s.cl 5).part = 1 ∧ _); omega
      rw [b6]
      unfold r2S
      rw [if_neg e1]
      have f1 : ((r1S 5 t s).cl 5).bs = (s.cl 5).bs := by rw [r1_cl]
      have f2 : ((r1S 5 t s).cl 5).bv = (s.cl 5).bv := by rw [r1_cl]
      split
      · refine ⟨by show 0 < ((r1S 5 t s).cl 5).bs; omega, by show ((r1S 5 t s).cl 5).bv = v; rw [f2, d2], fun a ha => ?_⟩
        show 0 < upd s.S t ((r1S 5 t s).cl 5).bs a
        rw [upd_apply]
        split
        · omega
        · rename_i e
          rcases (or_bitC _ _ _).1 ha with ha | ha
          · exact d3 a ha
          · exact absurd ha e
      · rename_i e2
        refine ⟨by omega, by rw [f2, d2], fun a ha => ?_⟩
        show 0 < s.S a
        rcases (or_bitC _ _ _).1 ha with ha | ha
        · exact d3 a ha
        · subst ha
          have e3 : ((r1S 5 a s).cl 5).part = 2 := by rw [r1_cl]; exact hq
          have : ¬ s.S a < ((r1S 5 a s).cl 5).bs := fun hx => e2 ⟨e3, hx⟩
          omega
    have hpt : ((r2S 5 t (r1S 5 t s)).cl 5).part = 1 ∨ ((r2S 5 t (r1S 5 t s)).cl 5).part = 2 := by rw [b5]; exact h.part
    clear b1 b2 b3 b4 b5 b6 b7 b8 b9
    unfold reachS
    generalize r2S 5 t (r1S 5 t s) = s2 at *
    unfold r3S
    split
    · exact .inr (.inl ⟨c8, c2, c3, c4, hpt, hrl, hm, hp2⟩)
    rename_i hmaj
    split
    · try rw [if_pos c3]
      refine .inr (.inl ⟨c8, ?_, ?_, ?_, ?_, ?_, ?_, ?_⟩) <;> (try rw [setC_self])
      · exact c2
      · exact c3
      · exact c4
      · exact .inr rfl
      · exact Nat.two_pow_pos n
      · exact pop_zero.symm
      · intro _
        refine ⟨?_, c4, fun a ha => ?_⟩
        · have := (abv_lt (s := (s2.cl 5).bs) (i := 5) (by omega)).1
          show 0 < abv _ 5; omega
        · simp at ha
    · rename_i hne
      have h2 : (s2.cl 5).part = 2 := hpt.resolve_left hne
      obtain ⟨d1, d2, d3⟩ := hp2 h2
      refine .inr (.inr ⟨rfl, s2.ops, now, ?_, c8, (s2.cl 5).rch, hrl, by rw [← hm]; omega, d3⟩)
      show s2.ops ++ [_] = _
      rw [c2, c3, d2]
  · exact absurd h hp0
theorem mp_end {n L : Nat} {v : Int} {s : CS} (h : MP n L v s) : NoOp L s.ops ∨ Done n L v s.ops s.S := by
  rcases h with ⟨h, _⟩ | h | ⟨_, h⟩
  · exact .inl h
  · exact .inl h.no
  · exact .inr h
/-- How many have some stamp. -/
def cntS (S : Nat → Nat) : Nat → Nat
  | 0 => 0
  | j + 1 => cntS S j + if 0 < S j then 1 else 0
theorem cntS_le (S : Nat → Nat) : ∀ j, cntS S j ≤ j
  | 0 => Nat.le_refl _
  | j + 1 => by have := cntS_le S j; rw [cntS]; split <;> omega
theorem cntS_ge {S : Nat → Nat} {Q : Nat} (h : ∀ a, Q.testBit a = true → 0 < S a) : ∀ j, popTo Q j ≤ cntS S j
  | 0 => Nat.le_refl _
  | j + 1 => by
    have := cntS_ge h j
    rw [popTo, cntS]
    by_cases e : Q.testBit j = true
    · rw [if_pos (h j e)]; simp [e]; omega
    · simp [e]; omega
theorem done_cnt {n L : Nat} {v : Int} {l : List Opr} {S : Nat → Nat} (hn : n ≤ 32) (h : Done n L v l S) : ∃ l0 e, l = l0 ++ [⟨5, L, e, true, v⟩] ∧ NoOp L l0 ∧ n < 2 * cntS S n := by
  obtain ⟨l0, e, h1, h2, Q, h3, h4, h5⟩ := h
  have := cntS_ge h5 n
  rw [pop_lt h3 hn] at h4
  exact ⟨l0, e, h1, h2, by omega⟩
end Go.Proofs.Ytoakgoigamigjaa
