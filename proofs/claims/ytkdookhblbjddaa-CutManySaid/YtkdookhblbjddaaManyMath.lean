/- How many whole cuts there are: the plain laws. -/
import Derived.Test.YtkdookhblbjddaaVecMath
set_option linter.unusedVariables false
set_option linter.unusedSimpArgs false
namespace Go.Proofs.Ytkdookhblbjddaa

theorem inj_le (f : Nat → Nat) : ∀ {l m : List Nat}, l.Nodup → (∀ x, x ∈ l → f x ∈ m) → (∀ x, x ∈ l → ∀ y, y ∈ l → f x = f y → x = y) → l.length ≤ m.length
  | [], m, _, _, _ => Nat.zero_le _
  | a :: l, m, hn, hs, hi => by
    rw [List.nodup_cons] at hn
    have ha := hs a (List.mem_cons_self ..)
    have h := inj_le f (l := l) (m := m.erase (f a)) hn.2 (fun x hx => by
      have hne : f x ≠ f a := fun e => by
        have := hi x (List.mem_cons_of_mem _ hx) a (List.mem_cons_self ..) e
        subst this
        exact hn.1 hx
      exact (List.mem_erase_of_ne hne).2 (hs x (List.mem_cons_of_mem _ hx))) (fun x hx y hy => hi x (List.mem_cons_of_mem _ hx) y (List.mem_cons_of_mem _ hy))
    have h2 := List.length_erase_of_mem ha
    have h3 := List.length_pos_of_mem ha
    rw [List.length_cons]
    omega
theorem nodup_le {l m : List Nat} (h : l.Nodup) (hs : ∀ x, x ∈ l → x ∈ m) : l.length ≤ m.length := inj_le id h hs (fun _ _ _ _ e => e)

/-- A whole set of events. -/
def DC (E : Ev) (len S : Nat) : Prop := ∀ i, S.testBit i = true → i < len ∧ ∀ a, Hb E a i → S.testBit a = true
/-- How many of the first j are in it? -/
def pcS (S : Nat) : Nat → Nat
  | 0 => 0
  | j + 1 => pcS S j + (S.testBit j).toNat
theorem pcS_le (S j : Nat) : pcS S j ≤ j := by
  induction j with
  | zero => exact Nat.le_refl _
  | succ j ih => rw [pcS]; cases S.testBit j <;> simp [Bool.toNat] <;> omega
theorem pcS_put {S i : Nat} (hb : S.testBit i = false) (j : Nat) : pcS (S ||| 2 ^ i) j = pcS S j + if i < j then 1 else 0 := by
  induction j with
  | zero => rfl
  | succ j ih =>
    rw [pcS, pcS, ih]
    have e : (S ||| 2 ^ i).testBit j = (S.testBit j || decide (i = j)) := by rw [Nat.testBit_or, Nat.testBit_two_pow]
    rw [e]
    by_cases hij : i = j
    · subst hij
      rw [hb, if_neg (by omega), if_pos (by omega)]
      simp
    · rw [show decide (i = j) = false by simpa using hij, Bool.or_false]
      by_cases h : i < j
      · rw [if_pos h, if_pos (by omega)]; omega
      · rw [if_neg h, if_neg (by omega)]
        omega
theorem pcS_zero {S : Nat} (h : ∀ j : Nat, pcS S j = 0) : S = 0 := by
  apply Nat.eq_of_testBit_eq
  intro i
  rw [Nat.zero_testBit]
  have := h (i + 1)
  rw [pcS] at this
  cases hb : S.testBit i
  · rfl
  · rw [hb] at this; simp at this
theorem pcS_full (m j : Nat) : pcS (2 ^ m - 1) j = min m j := by
  induction j with
  | zero => simp [pcS]
  | succ j ih =>
    rw [pcS, ih, Nat.testBit_two_pow_sub_one]
    by_cases h : j < m
    · simp [h]; omega
    · simp [h]; omega
section
variable {E : Ev} {len : Nat}
theorem dc_zero (E : Ev) (len : Nat) : DC E len 0 := fun i h => by rw [Nat.zero_testBit] at h; cases h
theorem dc_lt {S : Nat} (h : DC E len S) : S < 2 ^ len := Nat.lt_pow_two_of_testBit _ fun i hi => by
  cases ht : S.testBit i
  · rfl
  · have := (h i ht).1; omega
theorem dc_put {S i : Nat} (h : DC E len S) (hi : i < len) (hp : ∀ a, Hb E a i → S.testBit a = true) : DC E len (S ||| 2 ^ i) := by
  intro j hj
  rcases (testBit_put S i j).1 hj with h1 | rfl
  · exact ⟨(h j h1).1, fun a ha => (testBit_put S i a).2 (.inl ((h j h1).2 a ha))⟩
  · exact ⟨hi, fun a ha => (testBit_put S i a).2 (.inl (hp a ha))⟩
/-- A whole set that is not empty has one that goes last. -/
theorem dc_last {S : Nat} (h : DC E len S) (h0 : S ≠ 0) : ∃ T i, DC E len T ∧ i < len ∧ T.testBit i = false ∧ (∀ a, Hb E a i → T.testBit a = true) ∧ S = T ||| 2 ^ i := by
  have hex : ∀ m, (∀ i, m ≤ i → S.testBit i = false) → ∃ i, S.testBit i = true ∧ ∀ j, i < j → S.testBit j = false := by
    intro m
    induction m with
    | zero =>
      intro hm
      exact absurd (Nat.eq_of_testBit_eq fun i => by rw [hm i (Nat.zero_le _), Nat.zero_testBit]) h0
    | succ m ih =>
      intro hm
      cases hb : S.testBit m
      · refine ih fun i hi => ?_
        rcases Nat.eq_or_lt_of_le hi with rfl | h1
        · exact hb
        · exact hm i h1
      · exact ⟨m, hb, fun j hj => hm j hj⟩
  obtain ⟨i, hi, htop⟩ := hex len fun i hi => by
    cases hb : S.testBit i
    · rfl
    · have := (h i hb).1; omega
  have hT : ∀ j, (S ^^^ 2 ^ i).testBit j = (S.testBit j && !decide (i = j)) := by
    intro j
    rw [Nat.testBit_xor, Nat.testBit_two_pow]
    by_cases e : i = j
    · subst e; rw [hi]; simp
    · simp [e]
  have hpast : ∀ a, Hb E a i → (S ^^^ 2 ^ i).testBit a = true := fun a ha => by
    rw [hT, (h i hi).2 a ha]
    have := ha.lt
    simp; omega
  refine ⟨S ^^^ 2 ^ i, i, fun j hj => ?_, (h i hi).1, by rw [hT]; simp, hpast, ?_⟩
  · rw [hT, Bool.and_eq_true] at hj
    refine ⟨(h j hj.1).1, fun a ha => ?_⟩
    rw [hT, (h j hj.1).2 a ha]
    have h1 := ha.lt
    have h2 : i ≠ a := fun e => by
      subst e
      have := htop j h1
      rw [this] at hj; cases hj.1
    simp [h2]
  · apply Nat.eq_of_testBit_eq
    intro j
    rw [Nat.testBit_or, hT, Nat.testBit_two_pow]
    by_cases e : i = j
    · subst e; rw [hi]; simp
    · simp [e]
/-- Of one process more: the whole sets that have one event more. -/
def Lvl (E : Ev) (len s : Nat) (l : List Nat) : Prop := l.Nodup ∧ ∀ S, S ∈ l ↔ DC E len S ∧ pcS S len = s
theorem lvl_zero (E : Ev) (len : Nat) : Lvl E len 0 [0] := by
  refine ⟨by simp, fun S => ?_⟩
  rw [List.mem_singleton]
  constructor
  · rintro rfl
    refine ⟨dc_zero E len, ?_⟩
    have := pcS_full 0 len
    simpa using this
  · rintro ⟨h1, h2⟩
    apply Classical.byContradiction
    intro h0
    obtain ⟨T, i, _, hi, hb, _, rfl⟩ := dc_last h1 h0
    rw [pcS_put hb, if_pos hi] at h2
    omega
theorem lvl_next {s : Nat} {l m : List Nat} (h : Lvl E len s l) (hn : m.Nodup) (hm : ∀ S, S ∈ m ↔ ∃ T i, T ∈ l ∧ i < len ∧ T.testBit i = false ∧ (∀ a, Hb E a i → T.testBit a = true) ∧ S = T ||| 2 ^ i) : Lvl E len (s + 1) m := by
  refine ⟨hn, fun S => ?_⟩
  rw [hm]
  constructor
  · rintro ⟨T, i, hT, hi, hb, hp, rfl⟩
    obtain ⟨h1, h2⟩ := (h.2 T).1 hT
    exact ⟨dc_put h1 hi hp, by rw [pcS_put hb, if_pos hi, h2]⟩
  · rintro ⟨h1, h2⟩
    have h0 : S ≠ 0 := by
      rintro rfl
      have := pcS_full 0 len
      simp at this
      omega
    obtain ⟨T, i, hT, hi, hb, hp, rfl⟩ := dc_last h1 h0
    refine ⟨T, i, (h.2 T).2 ⟨hT, ?_⟩, hi, hb, hp, rfl⟩
    rw [pcS_put hb, if_pos hi] at h2
    omega
theorem lvl_len {s : Nat} {l : List Nat} (h : Lvl E len s l) (hs : len < s) : l = [] := by
  cases l with
  | nil => rfl
  | cons a l =>
    have := ((h.2 a).1 (List.mem_cons_self ..)).2
    have := pcS_le a len
    omega
/-- The first m events are a whole set. -/
theorem dc_first {m : Nat} (hm : m ≤ len) : DC E len (2 ^ m - 1) := by
  intro i hi
  rw [Nat.testBit_two_pow_sub_one, decide_eq_true_iff] at hi
  refine ⟨by omega, fun a ha => ?_⟩
  have := ha.lt
  rw [Nat.testBit_two_pow_sub_one, decide_eq_true_iff]
  omega
theorem lvl_some {s : Nat} {l : List Nat} (h : Lvl E len s l) (hs : s ≤ len) : l ≠ [] := by
  intro e
  have := (h.2 (2 ^ s - 1)).2 ⟨dc_first hs, by rw [pcS_full]; omega⟩
  rw [e] at this
  simp at this
/-- All of fewer than s events. -/
def AllL (E : Ev) (len s : Nat) (l : List Nat) : Prop := l.Nodup ∧ ∀ S, S ∈ l ↔ DC E len S ∧ pcS S len < s
theorem all_zero (E : Ev) (len : Nat) : AllL E len 0 [] := ⟨List.nodup_nil, fun S => by simp⟩
theorem all_next {s : Nat} {l m : List Nat} (h : AllL E len s l) (hm : Lvl E len s m) : AllL E len (s + 1) (l ++ m) := by
  refine ⟨?_, fun S => ?_⟩
  · rw [List.nodup_append]
    refine ⟨h.1, hm.1, fun a ha b hb e => ?_⟩
    subst e
    have := ((h.2 a).1 ha).2
    have := ((hm.2 a).1 hb).2
    omega
  · rw [List.mem_append, h.2, hm.2]
    constructor
    · rintro (⟨h1, h2⟩ | ⟨h1, h2⟩)
      · exact ⟨h1, by omega⟩
      · exact ⟨h1, by omega⟩
    · rintro ⟨h1, h2⟩
      rcases Nat.lt_succ_iff_lt_or_eq.1 h2 with h3 | h3
      · exact .inl ⟨h1, h3⟩
      · exact .inr ⟨h1, h3⟩
/-- More than events. -/
theorem all_many {l : List Nat} (h : AllL E len (len + 1) l) : len + 1 ≤ l.length := by
  have := inj_le (fun m => 2 ^ m - 1) (l := List.range (len + 1)) (m := l) List.nodup_range (fun m hm => by
    rw [List.mem_range] at hm
    exact (h.2 _).2 ⟨dc_first (by omega), by have := pcS_le (2 ^ m - 1) len; omega⟩) (fun x hx y hy e => by
    rw [List.mem_range] at hx hy
    have h1 := pcS_full x len
    have h2 := pcS_full y len
    rw [e, h2] at h1
    omega)
  rwa [List.length_range] at this
/-- Two that are apart: one whole set more. -/
theorem all_more {l : List Nat} (h : AllL E len (len + 1) l) {i j : Nat} (hij : i < j) (hj : j < len) (hno : ¬ Hb E i j) : len + 2 ≤ l.length := by
  have hD : DC E len (pastW E j ||| 2 ^ j) := by
    intro x hx
    rcases (testBit_put _ _ _).1 hx with h1 | rfl
    · exact ⟨by have := (show Hb E x j from h1).lt; omega, fun a ha => (testBit_put _ _ _).2 (.inl (ha.trans (show Hb E x j from h1)))⟩
    · exact ⟨hj, fun a ha => (testBit_put _ _ _).2 (.inl ha)⟩
  have hni : ∀ m, m ≤ len → 2 ^ m - 1 ≠ pastW E j ||| 2 ^ j := by
    intro m hm e
    have h1 := (testBit_put (pastW E j) j j).2 (.inr rfl)
    rw [← e, Nat.testBit_two_pow_sub_one, decide_eq_true_iff] at h1
    have h2 : (2 ^ m - 1).testBit i = true := by rw [Nat.testBit_two_pow_sub_one, decide_eq_true_iff]; omega
    rw [e] at h2
    rcases (testBit_put _ _ _).1 h2 with h3 | h3
    · exact hno h3
    · omega
  have := inj_le (fun m => if m = len + 1 then pastW E j ||| 2 ^ j else 2 ^ m - 1) (l := List.range (len + 2)) (m := l) List.nodup_range (fun m hm => by
    rw [List.mem_range] at hm
    split
    · exact (h.2 _).2 ⟨hD, by have := pcS_le (pastW E j ||| 2 ^ j) len; omega⟩
    · exact (h.2 _).2 ⟨dc_first (by omega), by have := pcS_le (2 ^ m - 1) len; omega⟩) (fun x hx y hy e => by
    rw [List.mem_range] at hx hy
    by_cases hx1 : x = len + 1
    · by_cases hy1 : y = len + 1
      · omega
      · rw [if_pos hx1, if_neg hy1] at e
        exact absurd e.symm (hni y (by omega))
    · by_cases hy1 : y = len + 1
      · rw [if_neg hx1, if_pos hy1] at e
        exact absurd e (hni x (by omega))
      · rw [if_neg hx1, if_neg hy1] at e
        have h1 := pcS_full x len
        have h2 := pcS_full y len
        rw [e, h2] at h1
        omega)
  rwa [List.length_range] at this
/-- None apart: the first ones alone. -/
theorem all_few {l : List Nat} (h : AllL E len (len + 1) l) (hall : ∀ i j, i < j → j < len → Hb E i j) : l.length ≤ len + 1 := by
  have := inj_le (fun S => pcS S len) (l := l) (m := List.range (len + 1)) h.1 (fun S hS => by
    rw [List.mem_range]; exact ((h.2 S).1 hS).2) (fun x hx y hy e => by
    have key : ∀ S, DC E len S → S = 2 ^ pcS S len - 1 := by
      intro S hS
      have hdown : ∀ i j, i ≤ j → S.testBit j = true → S.testBit i = true := by
        intro i j hij hb
        rcases Nat.eq_or_lt_of_le hij with rfl | h1
        · exact hb
        · exact (hS j hb).2 i (hall i j h1 (hS j hb).1)
      have hpc : ∀ j, (S.testBit j = true → pcS S (j + 1) = j + 1) ∧ (S.testBit j = false → ∀ k, j ≤ k → pcS S k = pcS S j) := by
        intro j
        constructor
        · intro hb
          have : ∀ t, t ≤ j + 1 → pcS S t = t := by
            intro t
            induction t with
            | zero => intro _; rfl
            | succ t ih =>
              intro ht
              rw [pcS, ih (by omega), hdown t j (by omega) hb]
              rfl
          exact this _ (Nat.le_refl _)
        · intro hb k hk
          induction hk with
          | refl => rfl
          | step hk ih =>
            rename_i k
            rw [pcS, ih]
            cases hbk : S.testBit k
            · rfl
            · rw [hdown j k hk hbk] at hb; cases hb
      apply Nat.eq_of_testBit_eq
      intro i
      rw [Nat.testBit_two_pow_sub_one]
      cases hb : S.testBit i
      · symm
        rw [decide_eq_false_iff_not]
        rcases Nat.lt_or_ge i len with hl | hl
        · rw [(hpc i).2 hb len (by omega)]
          have := pcS_le S i
          omega
        · have := pcS_le S len
          omega
      · symm
        rw [decide_eq_true_iff]
        have h1 := (hpc i).1 hb
        have hl := (hS i hb).1
        have h2 : pcS S (i + 1) ≤ pcS S len := by
          have : ∀ k, i + 1 ≤ k → pcS S (i + 1) ≤ pcS S k := by
            intro k hk
            induction hk with
            | refl => exact Nat.le_refl _
            | step _ ih => exact Nat.le_trans ih (Nat.le_add_right _ _)
          exact this len hl
        omega
    rw [key x ((h.2 x).1 hx).1, key y ((h.2 y).1 hy).1]
    rw [e])
  rwa [List.length_range] at this

/-! No more than choices of how many of each process. -/
def csS (E : Ev) (S : Nat) (q : Int) : Nat → Nat
  | 0 => 0
  | j + 1 => csS E S q j + if S.testBit j = true ∧ E.p j = q then 1 else 0
theorem csS_le (E : Ev) (S : Nat) (q : Int) (j : Nat) : csS E S q j ≤ cntP E q j := by
  induction j with
  | zero => exact Nat.le_refl _
  | succ j ih =>
    rw [csS, cntP]
    by_cases h : E.p j = q
    · rw [if_pos h]; split <;> omega
    · rw [if_neg h, if_neg (fun h' => h h'.2)]; omega
theorem csS_mono (E : Ev) (S : Nat) (q : Int) {i j : Nat} (h : i ≤ j) : csS E S q i ≤ csS E S q j := by
  induction h with
  | refl => exact Nat.le_refl _
  | step _ ih => rw [csS]; omega
theorem dc_bit {S : Nat} (h : DC E len S) {i : Nat} (hi : i < len) : S.testBit i = true ↔ cntP E (E.p i) i < csS E S (E.p i) len := by
  constructor
  · intro hb
    have : ∀ t, t ≤ i → csS E S (E.p i) t = cntP E (E.p i) t := by
      intro t
      induction t with
      | zero => intro _; rfl
      | succ t ih =>
        intro ht
        rw [csS, cntP, ih (by omega)]
        by_cases hp : E.p t = E.p i
        · rw [if_pos hp, if_pos ⟨(h i hb).2 t (Hb.same (by omega) hp), hp⟩]
        · rw [if_neg hp, if_neg (fun h' => hp h'.2)]
    have h1 := this i (Nat.le_refl _)
    have h2 : csS E S (E.p i) (i + 1) = csS E S (E.p i) i + 1 := by rw [csS, if_pos ⟨hb, rfl⟩]
    have h3 := csS_mono E S (E.p i) (show i + 1 ≤ len by omega)
    omega
  · intro hlt
    apply Classical.byContradiction
    intro hb
    have : ∀ t, i ≤ t → csS E S (E.p i) t = csS E S (E.p i) i := by
      intro t ht
      induction ht with
      | refl => rfl
      | step ht ih =>
        rename_i t
        rw [csS, ih, if_neg (fun ⟨h1, h2⟩ => by
          rcases Nat.eq_or_lt_of_le ht with h3 | h3
          · subst h3; exact hb h1
          · exact hb ((h t h1).2 i (Hb.same h3 h2.symm)))]
        rfl
    have h1 := this len (by omega)
    have h2 := csS_le E S (E.p i) i
    omega
/-- Written as one number. -/
def cdS (E : Ev) (len S : Nat) : Nat → Nat
  | 0 => 0
  | p + 1 => cdS E len S p * (cntP E p len + 1) + csS E S p len
def prodP (E : Ev) (len : Nat) : Nat → Nat
  | 0 => 1
  | p + 1 => prodP E len p * (cntP E p len + 1)
theorem cdS_lt (E : Ev) (len S p : Nat) : cdS E len S p < prodP E len p := by
  induction p with
  | zero => exact Nat.one_pos
  | succ p ih =>
    rw [cdS, prodP]
    have h := csS_le E S p len
    calc cdS E len S p * (cntP E p len + 1) + csS E S p len < cdS E len S p * (cntP E p len + 1) + (cntP E p len + 1) := by omega
      _ = (cdS E len S p + 1) * (cntP E p len + 1) := by rw [Nat.add_mul, Nat.one_mul]
      _ ≤ prodP E len p * (cntP E p len + 1) := Nat.mul_le_mul_right _ ih
theorem cdS_inj {S T p : Nat} (h : cdS E len S p = cdS E len T p) : ∀ q, q < p → csS E S q len = csS E T q len := by
  induction p with
  | zero => intro q hq; omega
  | succ p ih =>
    rw [cdS, cdS] at h
    have h1 := csS_le E S p len
    have h2 := csS_le E T p len
    have e1 : csS E S p len = csS E T p len := by
      have := congrArg (· % (cntP E p len + 1)) h
      simp only [Nat.mul_add_mod_self_right] at this
      rwa [Nat.mod_eq_of_lt (by omega), Nat.mod_eq_of_lt (by omega)] at this
    have e2 : cdS E len S p = cdS E len T p := by
      rw [e1] at h
      exact Nat.eq_of_mul_eq_mul_right (Nat.succ_pos _) (Nat.add_right_cancel h)
    intro q hq
    rcases Nat.lt_succ_iff_lt_or_eq.1 hq with h3 | rfl
    · exact ih e2 q h3
    · exact e1
theorem all_most {l : List Nat} {n : Nat} (h : AllL E len (len + 1) l) (hp : ∀ i, i < len → 0 ≤ E.p i ∧ E.p i < n) : l.length ≤ prodP E len n := by
  have := inj_le (fun S => cdS E len S n) (l := l) (m := List.range (prodP E len n)) h.1 (fun S _ => List.mem_range.2 (cdS_lt E len S n)) (fun x hx y hy e => by
    have hx := ((h.2 x).1 hx).1
    have hy := ((h.2 y).1 hy).1
    have hc := cdS_inj e
    apply Nat.eq_of_testBit_eq
    intro i
    rcases Nat.lt_or_ge i len with hi | hi
    · rw [Bool.eq_iff_iff, dc_bit hx hi, dc_bit hy hi]
      obtain ⟨h1, h2⟩ := hp i hi
      have := hc (E.p i).toNat (by omega)
      rw [Int.toNat_of_nonneg h1] at this
      rw [this]
    · have ox : x.testBit i = false := by
        cases hb : x.testBit i
        · rfl
        · have := (hx i hb).1; omega
      have oy : y.testBit i = false := by
        cases hb : y.testBit i
        · rfl
        · have := (hy i hb).1; omega
      rw [ox, oy])
  rwa [List.length_range] at this
end
end Go.Proofs.Ytkdookhblbjddaa
