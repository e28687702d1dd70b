/- Orders of operations, in plain functions: what the search may place next; what an order is that it can find. -/
import Derived.Test.YtoakgoigamigjaaPopM
import Derived.Test.YtoakgoigamigjaaBits
import Derived.Test.YtoakgoigamigjaaLay
set_option linter.unusedVariables false
set_option linter.unusedSimpArgs false
namespace Go.Proofs.Ytoakgoigamigjaa
open Go.RowKit

structure Opl where
  n : Nat
  fr : Nat → Int
  bg : Nat → Int
  en : Nat → Int
  wr : Nat → Bool
  vl : Nat → Int

def lineB (o : Opl) (i j : Nat) : Bool := decide (o.en i < o.bg j) || (o.fr i == o.fr j && decide (o.bg i < o.bg j))
def sameB (o : Opl) (i j : Nat) : Bool := o.fr i == o.fr j && decide (o.bg i < o.bg j)
def nowV (o : Opl) (last : Int) : Int := if 0 ≤ last then o.vl last.toNat else 0
def nextL (o : Opl) (last : Int) (i : Nat) : Int := if o.wr i then i else last
def lnWaitB (B : Nat → Nat → Bool) (n d i : Nat) : Bool := anyTo (fun a => !d.testBit a && B a i) n
/-- May it stand next? -/
def canB (o : Opl) (B : Nat → Nat → Bool) (d : Nat) (last : Int) (i : Nat) : Bool := !d.testBit i && !lnWaitB B o.n d i && (o.wr i || o.vl i == nowV o last)
def RunO (o : Opl) (B : Nat → Nat → Bool) : Nat → Int → List Nat → Prop
  | d, _, [] => d = 2 ^ o.n - 1
  | d, last, i :: l => i < o.n ∧ canB o B d last i = true ∧ RunO o B (d ||| 2 ^ i) (nextL o last i) l
def Fin (o : Opl) (B : Nat → Nat → Bool) (d : Nat) (last : Int) : Prop := ∃ l, RunO o B d last l
def Leg (o : Opl) : Int → List Nat → Prop
  | _, [] => True
  | last, i :: l => (o.wr i = true ∨ o.vl i = nowV o last) ∧ Leg o (nextL o last i) l
/-- An order that may be. -/
structure Ord (o : Opl) (B : Nat → Nat → Bool) (d : Nat) (last : Int) (l : List Nat) : Prop where
  nd : l.Nodup
  mem : ∀ i, i ∈ l ↔ i < o.n ∧ d.testBit i = false
  pw : l.Pairwise fun a b => B b a = false
  leg : Leg o last l

theorem full_bit {n i : Nat} : (2 ^ n - 1).testBit i = decide (i < n) := Nat.testBit_two_pow_sub_one ..
theorem full_iff {n d : Nat} (hd : d < 2 ^ n) : d = 2 ^ n - 1 ↔ ∀ i, i < n → d.testBit i = true := by
  constructor
  · rintro rfl i hi
    rw [full_bit]; exact decide_eq_true hi
  · intro h
    refine Nat.eq_of_testBit_eq fun i => ?_
    rw [full_bit]
    by_cases hi : i < n
    · rw [h i hi]; simp [hi]
    · rw [Nat.testBit_lt_two_pow (Nat.lt_of_lt_of_le hd (Nat.pow_le_pow_right (by omega) (by omega)))]; simp [hi]
theorem or_bit (d i j : Nat) : (d ||| 2 ^ i).testBit j = (d.testBit j || decide (j = i)) := by
  rw [Nat.testBit_or, Nat.testBit_two_pow]
  by_cases h : i = j
  · subst h; simp
  · have h2 : ¬ j = i := fun e => h e.symm
    simp [h, h2]
theorem or_lt' {d i n : Nat} (hd : d < 2 ^ n) (hi : i < n) : d ||| 2 ^ i < 2 ^ n := or_lt hd hi
theorem popTo_orbit (d i m : Nat) (h : d.testBit i = false) : popTo (d ||| 2 ^ i) m = popTo d m + (if i < m then 1 else 0) := by
  induction m with
  | zero => simp [popTo]
  | succ m ih =>
    rw [popTo, popTo, ih, or_bit]
    by_cases e : m = i
    · subst e
      simp [h]
    · have : (if i < m + 1 then (1 : Nat) else 0) = if i < m then 1 else 0 := by
        by_cases h : i < m
        · rw [if_pos h, if_pos (by omega)]
        · rw [if_neg h, if_neg (by omega)]
      rw [this]
      simp only [e, decide_false, Bool.or_false]
      omega
theorem popTo_full_iff {d n : Nat} (h : n ≤ popTo d n) : ∀ i, i < n → d.testBit i = true := by
  induction n with
  | zero => intro i hi; omega
  | succ n ih =>
    rw [popTo] at h
    have hle := popTo_le d n
    intro i hi
    cases hb : d.testBit n
    · rw [hb] at h; simp at h; omega
    · rcases Nat.lt_succ_iff_lt_or_eq.1 hi with h1 | rfl
      · exact ih (by rw [hb] at h; simp at h; omega) i h1
      · exact hb

theorem run_ord {o : Opl} {B : Nat → Nat → Bool} : ∀ {l : List Nat} {d : Nat} {last : Int}, d < 2 ^ o.n → RunO o B d last l → Ord o B d last l
  | [], d, last, hd, h => ⟨List.nodup_nil, fun i => by
      have h : d = 2 ^ o.n - 1 := h
      simp only [List.not_mem_nil, false_iff, not_and, Bool.not_eq_false]
      exact fun hi => (full_iff hd).1 h i hi, List.Pairwise.nil, trivial⟩
  | i :: l, d, last, hd, ⟨hi, hc, hr⟩ => by
    have ih := run_ord (or_lt' hd hi) hr
    unfold canB at hc
    rw [Bool.and_eq_true, Bool.and_eq_true, Bool.not_eq_true', Bool.not_eq_true', Bool.or_eq_true, beq_iff_eq] at hc
    obtain ⟨⟨h1, h2⟩, h3⟩ := hc
    have hni : i ∉ l := fun hm => by
      have := ((ih.mem i).1 hm).2
      rw [or_bit] at this
      simp at this
    refine ⟨List.nodup_cons.2 ⟨hni, ih.nd⟩, fun j => ?_, List.pairwise_cons.2 ⟨fun j hj => ?_, ih.pw⟩, h3, ih.leg⟩
    · rw [List.mem_cons, ih.mem, or_bit]
      by_cases e : j = i
      · subst e; simp [hi, h1]
      · simp [e]
    · have hj2 := (ih.mem j).1 hj
      rw [or_bit, Bool.or_eq_false_iff] at hj2
      have := anyTo_no.1 h2 j hj2.1
      simpa [hj2.2.1] using this
theorem ord_run {o : Opl} {B : Nat → Nat → Bool} (hB : ∀ i, i < o.n → B i i = false) : ∀ {l : List Nat} {d : Nat} {last : Int}, d < 2 ^ o.n → Ord o B d last l → RunO o B d last l
  | [], d, last, hd, h => by
    show d = _
    refine (full_iff hd).2 fun i hi => ?_
    cases hb : d.testBit i
    · have := (h.mem i).2 ⟨hi, hb⟩; simp at this
    · rfl
  | i :: l, d, last, hd, h => by
    have hm := (h.mem i).1 (by simp)
    have hnd := List.nodup_cons.1 h.nd
    have hpw := List.pairwise_cons.1 h.pw
    refine ⟨hm.1, ?_, ord_run hB (or_lt' hd hm.1) ⟨hnd.2, fun j => ?_, hpw.2, h.leg.2⟩⟩
    · unfold canB
      rw [Bool.and_eq_true, Bool.and_eq_true, Bool.not_eq_true', Bool.not_eq_true', Bool.or_eq_true, beq_iff_eq]
      refine ⟨⟨hm.2, anyTo_no.2 fun a ha => ?_⟩, h.leg.1⟩
      cases hb : d.testBit a
      · have := (h.mem a).2 ⟨ha, hb⟩
        rcases List.mem_cons.1 this with rfl | h2
        · simp [hB _ ha]
        · simp [hpw.1 a h2]
      · simp
    · rw [or_bit, Bool.or_eq_false_iff]
      have := h.mem j
      rw [List.mem_cons] at this
      constructor
      · intro hj
        have h2 := this.1 (.inr hj)
        refine ⟨h2.1, h2.2, decide_eq_false fun e => hnd.1 (e ▸ hj)⟩
      · rintro ⟨h1, h2, h3⟩
        exact (this.2 ⟨h1, h2⟩).resolve_left (of_decide_eq_false h3)

theorem run_len {o : Opl} {B : Nat → Nat → Bool} : ∀ {l : List Nat} {d : Nat} {last : Int}, d < 2 ^ o.n → RunO o B d last l → l.length + popTo d o.n = o.n
  | [], d, last, hd, h => by
    have h : d = 2 ^ o.n - 1 := h
    rw [h, popTo_full _ _ (Nat.le_refl _)]; simp
  | i :: l, d, last, hd, ⟨hi, hc, hr⟩ => by
    have ih := run_len (or_lt' hd hi) hr
    unfold canB at hc
    rw [Bool.and_eq_true, Bool.and_eq_true, Bool.not_eq_true'] at hc
    rw [popTo_orbit _ _ _ hc.1.1, if_pos hi] at ih
    rw [List.length_cons]; omega
theorem can_yes {o : Opl} {B : Nat → Nat → Bool} {d i : Nat} {last : Int} (h1 : d.testBit i = false) (h2 : lnWaitB B o.n d i = false) (h3 : o.wr i = true ∨ o.vl i = nowV o last) : canB o B d last i = true := by
  unfold canB
  rw [h1, h2]
  rcases h3 with h | h <;> simp [h]
theorem can_bit {o : Opl} {B : Nat → Nat → Bool} {d i : Nat} {last : Int} (h1 : d.testBit i = true) : canB o B d last i = false := by
  unfold canB; rw [h1]; rfl
theorem can_wait {o : Opl} {B : Nat → Nat → Bool} {d i : Nat} {last : Int} (h2 : lnWaitB B o.n d i = true) : canB o B d last i = false := by
  unfold canB; rw [h2]; simp
theorem can_val {o : Opl} {B : Nat → Nat → Bool} {d i : Nat} {last : Int} (h1 : o.wr i = false) (h2 : o.vl i ≠ nowV o last) : canB o B d last i = false := by
  unfold canB; rw [h1]; simp [h2]

/-- The search's round: nothing may stand next, or what may leads to none. -/
theorem fin_no {o : Opl} {B : Nat → Nat → Bool} {d : Nat} {last : Int} (hne : d ≠ 2 ^ o.n - 1) (h : ∀ i, i < o.n → ¬ (canB o B d last i = true ∧ Fin o B (d ||| 2 ^ i) (nextL o last i))) : ¬ Fin o B d last := by
  rintro ⟨l, hl⟩
  cases l with
  | nil => exact hne hl
  | cons i l => exact h i hl.1 ⟨hl.2.1, l, hl.2.2⟩
theorem nowV_next {o : Opl} {last : Int} {i : Nat} : nowV o (nextL o last i) = if o.wr i then o.vl i else nowV o last := by
  unfold nextL
  cases h : o.wr i
  · simp
  · simp [nowV]

/-- Less that must wait: no fewer orders. -/
theorem Ord.weak {o : Opl} {B B' : Nat → Nat → Bool} {d : Nat} {last : Int} {l : List Nat} (h : Ord o B d last l) (hb : ∀ i j, B i j = false → B' i j = false) : Ord o B' d last l :=
  ⟨h.nd, h.mem, h.pw.imp fun hx => hb _ _ hx, h.leg⟩
theorem line_same {o : Opl} {i j : Nat} (h : lineB o i j = false) : sameB o i j = false := by
  unfold lineB at h
  rw [Bool.or_eq_false_iff] at h
  exact h.2
structure Opl.Ok (o : Opl) : Prop where
  n8 : o.n ≤ 8
  be : ∀ i, i < o.n → o.bg i < o.en i
  ap : ∀ i j, i < o.n → j < o.n → i ≠ j → o.fr i = o.fr j → ¬ (o.bg j < o.en i ∧ o.bg i < o.en j)
theorem lineB_self {o : Opl} (h : o.Ok) : ∀ i, i < o.n → lineB o i i = false := by
  intro i hi
  have := h.be i hi
  unfold lineB
  rw [Bool.or_eq_false_iff]
  refine ⟨decide_eq_false (by omega), ?_⟩
  rw [Bool.and_eq_false_iff]
  exact .inr (decide_eq_false (by omega))
theorem sameB_self (o : Opl) : ∀ i, i < o.n → sameB o i i = false := by
  intro i _
  unfold sameB
  rw [Bool.and_eq_false_iff]
  exact .inr (decide_eq_false (by omega))
theorem fin_each {o : Opl} (h : Fin o (lineB o) 0 (-1)) : Fin o (sameB o) 0 (-1) := by
  obtain ⟨l, hl⟩ := h
  exact ⟨l, ord_run (sameB_self o) (Nat.two_pow_pos _) ((run_ord (Nat.two_pow_pos _) hl).weak fun _ _ => line_same)⟩
end Go.Proofs.Ytoakgoigamigjaa
