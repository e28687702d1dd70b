/- Who is reached, one by one: the plain law of probes. -/
import Derived.Test.YtgjmnnbcclgahaaCyc
import Derived.Test.YtgjmnnbcclgahaaPopM
import Derived.Test.YtgjmnnbcclgahaaWaitFix
import Derived.Test.YtgjmnnbcclgahaaWaitMath
set_option linter.unusedVariables false
set_option linter.unusedSimpArgs false
namespace Go.Proofs.Ytgjmnnbcclgahaa
open Relation

def Edge (f : Nat → Nat) (a b : Nat) : Prop := (f a).testBit b = true
theorem popTo_set (S x : Nat) (h : S.testBit x = false) (m : Nat) : popTo (S ||| 2 ^ x) m = popTo S m + if x < m then 1 else 0 := by
  induction m with
  | zero => rfl
  | succ m ih =>
    rw [popTo, popTo, ih, testBit_or_pow]
    by_cases he : x = m
    · subst he
      simp [h]
    · by_cases h2 : x < m
      · simp [he, h2, show x < m + 1 by omega]; omega
      · simp [he, h2, show ¬ x < m + 1 by omega]
structure SeenI (f : Nat → Nat) (n i : Nat) (d q : List Nat) (S : Nat) : Prop where
  hS : ∀ x, S.testBit x = true ↔ x ∈ d ∨ x ∈ q
  lt : ∀ x, x ∈ d ∨ x ∈ q → x < n
  cn : popTo S n = d.length + q.length
  way : ∀ x, x ∈ d ∨ x ∈ q → x = i ∨ TransGen (Edge f) i x
  fst : i ∈ d ∨ i ∈ q
structure TotI (f : Nat → Nat) (n i : Nat) (d : List Nat) (S : Nat) (back : Bool) (many : Nat) : Prop where
  bk : back = true ↔ ∃ v, v ∈ d ∧ (f v).testBit i = true
  lo : i ∈ d → pop (f i) ≤ many
  hi : many ≤ d.length * n
  cl : ∀ v, v ∈ d → ∀ x, (f v).testBit x = true → S.testBit x = true
section
variable {f : Nat → Nat} {n i : Nat} {d q : List Nat} {S : Nat}
theorem SeenI.sz (h : SeenI f n i d q S) : S < 2 ^ n := Nat.lt_pow_two_of_testBit _ fun x hx => by
  cases hb : S.testBit x with
  | false => rfl
  | true => exact absurd (h.lt x ((h.hS x).1 hb)) (by omega)
theorem seen_start (hi : i < n) (hn : n ≤ 32) : SeenI f n i [] [i] (2 ^ i) := by
  refine ⟨fun x => ?_, fun x hx => ?_, ?_, fun x hx => .inl ?_, .inr (by simp)⟩
  · rw [Nat.testBit_two_pow]; simp; exact eq_comm
  · simp at hx; omega
  · rw [popTo_two_pow, if_pos hi]; rfl
  · simpa using hx
theorem tot_start (hn : n ≤ 32) : TotI f n i [] S false 0 := ⟨by simp, fun h => by simp at h, by simp, fun v h => by simp at h⟩
theorem seen_push (h : SeenI f n i d q S) {x y : Nat} (hx : x < n) (hs : S.testBit x = false) (hy : y ∈ d ∨ y ∈ q) (he : (f y).testBit x = true) : SeenI f n i d (q ++ [x]) (S ||| 2 ^ x) := by
  refine ⟨fun z => ?_, fun z hz => ?_, ?_, fun z hz => ?_, ?_⟩
  · rw [testBit_or_pow, Bool.or_eq_true, h.hS z, decide_eq_true_iff]
    simp only [List.mem_append, List.mem_singleton]
    constructor
    · rintro ((h1 | h1) | rfl)
      · exact .inl h1
      · exact .inr (.inl h1)
      · exact .inr (.inr rfl)
    · rintro (h1 | h1 | rfl)
      · exact .inl (.inl h1)
      · exact .inl (.inr h1)
      · exact .inr rfl
  · rcases hz with h1 | h1
    · exact h.lt z (.inl h1)
    · rcases List.mem_append.1 h1 with h1 | h1
      · exact h.lt z (.inr h1)
      · rw [List.mem_singleton.1 h1]; exact hx
  · rw [popTo_set S x hs, if_pos hx, h.cn]; simp; omega
  · have hw : z = x → z = i ∨ TransGen (Edge f) i z := by
      rintro rfl
      rcases h.way y hy with rfl | h1
      · exact .inr (.single he)
      · exact .inr (.tail h1 he)
    rcases hz with h1 | h1
    · exact h.way z (.inl h1)
    · rcases List.mem_append.1 h1 with h1 | h1
      · exact h.way z (.inr h1)
      · exact hw (List.mem_singleton.1 h1)
  · rcases h.fst with h1 | h1
    · exact .inl h1
    · exact .inr (List.mem_append.2 (.inl h1))
theorem seen_pop {y : Nat} (h : SeenI f n i d (y :: q) S) : SeenI f n i (d ++ [y]) q S := by
  have key : ∀ x, (x ∈ d ++ [y] ∨ x ∈ q) ↔ (x ∈ d ∨ x ∈ y :: q) := fun x => by
    simp only [List.mem_append, List.mem_singleton, List.mem_cons, List.not_mem_nil, or_false, or_assoc]
  refine ⟨fun x => (h.hS x).trans (key x).symm, fun x hx => h.lt x ((key x).1 hx), ?_, fun x hx => h.way x ((key x).1 hx), (key i).2 h.fst⟩
  rw [h.cn]; simp; omega
theorem tot_more {back : Bool} {many : Nat} {S' : Nat} (h : TotI f n i d S back many) (hs : ∀ x, S.testBit x = true → S'.testBit x = true) : TotI f n i d S' back many :=
  ⟨h.bk, h.lo, h.hi, fun v hv x hx => hs x (h.cl v hv x hx)⟩
theorem tot_pop {back : Bool} {many y : Nat} (h : TotI f n i d S back many) (hn : n ≤ 32) (hy : f y < 2 ^ n) (hcl : ∀ x, x < n → (f y).testBit x = true → S.testBit x = true) :
    TotI f n i (d ++ [y]) S (back || (f y).testBit i) (many + pop (f y)) := by
  refine ⟨?_, fun hi => ?_, ?_, fun v hv x hx => ?_⟩
  · rw [Bool.or_eq_true, h.bk]
    constructor
    · rintro (⟨v, h1, h2⟩ | h1)
      · exact ⟨v, List.mem_append.2 (.inl h1), h2⟩
      · exact ⟨y, List.mem_append.2 (.inr (by simp)), h1⟩
    · rintro ⟨v, h1, h2⟩
      rcases List.mem_append.1 h1 with h1 | h1
      · exact .inl ⟨v, h1, h2⟩
      · rw [List.mem_singleton.1 h1] at h2; exact .inr h2
  · rcases List.mem_append.1 hi with h1 | h1
    · have := h.lo h1; omega
    · rw [List.mem_singleton.1 h1]; omega
  · have := pop_le hy hn
    have := h.hi
    rw [List.length_append, List.length_singleton, Nat.succ_mul]
    omega
  · rcases List.mem_append.1 hv with h1 | h1
    · exact h.cl v h1 x hx
    · rw [List.mem_singleton.1 h1] at hx
      exact hcl x (bit_lt hy hx) hx
theorem probe_end {back : Bool} {many : Nat} (h : SeenI f n i d [] S) (t : TotI f n i d S back many) : (back = true ↔ TransGen (Edge f) i i) ∧ pop (f i) ≤ many ∧ many ≤ n * n := by
  have hid : i ∈ d := by
    rcases h.fst with h1 | h1
    · exact h1
    · simp at h1
  have hall : ∀ x, TransGen (Edge f) i x → x ∈ d := by
    intro x hx
    have key : ∀ v, v ∈ d → ∀ y, Edge f v y → y ∈ d := by
      intro v hv y hy
      rcases (h.hS y).1 (t.cl v hv y hy) with h1 | h1
      · exact h1
      · simp at h1
    induction hx with
    | single h1 => exact key i hid _ h1
    | tail _ h2 ih => exact key _ ih _ h2
  refine ⟨t.bk.trans ⟨fun ⟨v, h1, h2⟩ => ?_, fun hw => ?_⟩, t.lo hid, ?_⟩
  · rcases h.way v (.inl h1) with rfl | h3
    · exact .single h2
    · exact .tail h3 h2
  · have key : ∀ x, TransGen (Edge f) i x → ∃ v, v ∈ d ∧ (f v).testBit x = true := by
      intro x hx
      cases hx with
      | single h1 => exact ⟨i, hid, h1⟩
      | tail h1 h2 => exact ⟨_, hall _ h1, h2⟩
    exact key i hw
  · have h1 := h.cn
    have h2 := popTo_le S n
    have h3 := t.hi
    simp only [List.length_nil, Nat.add_zero] at h1
    exact Nat.le_trans h3 (Nat.mul_le_mul_right n (by omega))
end
/-- Nobody of a set whose members all wait for one in it ever goes. -/
theorem outer_none {f : Nat → Nat} {n : Nat} (h6 : n ≤ 6) (hf : ∀ k, k < n → f k < 2 ^ n) (U : Nat → Prop) (hU : ∀ v, U v → ∃ w, U w ∧ Edge f v w) (r : Nat) : ∀ v, U v → (outer goAll f n r).testBit v = false := by
  have step : ∀ m s, m ≤ n → s < 2 ^ n → (∀ v, U v → s.testBit v = false) → ∀ v, U v → (inner goAll f m s).testBit v = false := by
    intro m s hm hs h0
    induction m with
    | zero => exact h0
    | succ m ih =>
      intro v hv
      have h1 := ih (by omega)
      have hlt := inner_lt goAll f (m := m) (n := n) (by omega) hs
      rw [inner]
      split
      · rename_i hg
        rw [testBit_or_pow, h1 v hv, Bool.false_or, decide_eq_false_iff_not]
        rintro rfl
        obtain ⟨w, hw, he⟩ := hU m hv
        rw [Bool.or_eq_true] at hg
        rcases hg with hg | hg
        · have : f m = 0 := by simpa using hg
          unfold Edge at he
          rw [this] at he
          simp at he
        · rw [goAll_iff (small_of h6 (hf m (by omega))) (small_of h6 hlt)] at hg
          have := hg w he
          rw [h1 w hw] at this
          cases this
      · exact h1 v hv
  induction r with
  | zero => intro v _; simp [outer]
  | succ r ih => exact step n _ (Nat.le_refl _) (outer_lt _ _ _ _) ih
theorem way_stuck {f : Nat → Nat} {n i : Nat} (h6 : n ≤ 6) (hf : ∀ k, k < n → f k < 2 ^ n) (hi : i < n) (h : TransGen (Edge f) i i) : (stuckAll f n).testBit i = true := by
  obtain ⟨U, hu, _, hs⟩ := of_cyc h
  unfold stuckAll
  rw [stuck_bit (outer_lt _ _ _ _), outer_none h6 hf U hs n i hu]
  simp [hi]
theorem stuck_way {f : Nat → Nat} {n : Nat} (h6 : n ≤ 6) (hf : ∀ k, k < n → f k < 2 ^ n) : stuckAll f n ≠ 0 ↔ ∃ i, i < n ∧ TransGen (Edge f) i i := by
  constructor
  · intro hne
    obtain ⟨u, hu⟩ : ∃ u, (stuckAll f n).testBit u = true := by
      apply Classical.byContradiction
      intro hno
      apply hne
      apply Nat.eq_of_testBit_eq
      intro x
      rw [Nat.zero_testBit]
      cases hb : (stuckAll f n).testBit x with
      | false => rfl
      | true => exact absurd ⟨x, hb⟩ hno
    have hin : ∀ v, (stuckAll f n).testBit v = true → v < n ∧ (outer goAll f n n).testBit v = false := by
      intro v hv
      unfold stuckAll at hv
      rw [stuck_bit (outer_lt _ _ _ _)] at hv
      simpa using hv
    obtain ⟨v, hv, hw⟩ := cyc_of (R := Edge f) (n := n) (fun v => (stuckAll f n).testBit v = true) hu (fun v hv => (hin v hv).1) (by
      intro v hv
      obtain ⟨h1, h2⟩ := hin v hv
      rw [free_iff goAll f n (goAll_mono h6 hf (outer_lt _ _ _ _)) h1, Bool.or_eq_false_iff] at h2
      have h3 : ¬ Sub (f v) (outer goAll f n n) := by
        rw [← goAll_iff (small_of h6 (hf v h1)) (small_of h6 (outer_lt _ _ _ _)), h2.2]
        simp
      apply Classical.byContradiction
      intro hno
      apply h3
      intro x hx
      cases hb : (outer goAll f n n).testBit x with
      | true => rfl
      | false =>
        exfalso
        apply hno
        refine ⟨x, ?_, hx⟩
        show (stuckAll f n).testBit x = true
        unfold stuckAll
        rw [stuck_bit (outer_lt _ _ _ _), hb]
        simp [bit_lt (hf v h1) hx])
    exact ⟨v, (hin v hv).1, hw⟩
  · rintro ⟨i, hi, hw⟩ h0
    have := way_stuck h6 hf hi hw
    rw [h0] at this
    simp at this
end Go.Proofs.Ytgjmnnbcclgahaa
