/- Who is joined with one: plain, and the walk of 'joined'; what EchoDone asks. -/
import Derived.Test.YtcmbbioipbdonaaEcLaw
import Derived.Test.YtcmbbioipbdonaaBit
set_option linter.unusedVariables false
set_option linter.unusedSimpArgs false
namespace Go.Proofs.Ytcmbbioipbdonaa
open Go.RowKit

theorem tb_or (a m i : Nat) : (a ||| 2 ^ m).testBit i = (a.testBit i || decide (m = i)) := by
  rw [Nat.testBit_or, Nat.testBit_two_pow]
def jnStep (p q : Nat → Nat) (S j : Nat) : Nat := if S.testBit (p j) || S.testBit (q j) then S ||| 2 ^ p j ||| 2 ^ q j else S
def jnR (p q : Nat → Nat) (S : Nat) : Nat → Nat
  | 0 => S
  | j + 1 => jnStep p q (jnR p q S j) j
def jnN (p q : Nat → Nat) (m S : Nat) : Nat → Nat
  | 0 => S
  | k + 1 => jnR p q (jnN p q m S k) m
theorem jnStep_bit (p q : Nat → Nat) (S j i : Nat) : (jnStep p q S j).testBit i = (S.testBit i || ((S.testBit (p j) || S.testBit (q j)) && (decide (p j = i) || decide (q j = i)))) := by
  unfold jnStep
  split
  · rename_i h
    rw [tb_or, tb_or, h, Bool.true_and, Bool.or_assoc]
  · rename_i h
    have h : (S.testBit (p j) || S.testBit (q j)) = false := by simpa using h
    rw [h, Bool.false_and, Bool.or_false]
theorem jnR_up {p q : Nat → Nat} {S i : Nat} (h : S.testBit i = true) : ∀ j, (jnR p q S j).testBit i = true
  | 0 => h
  | j + 1 => by
    show (jnStep _ _ _ _).testBit i = true
    rw [jnStep_bit, jnR_up h j]; rfl
theorem jnR_more {p q : Nat → Nat} {S i j : Nat} (h : (jnR p q S j).testBit i = true) : ∀ k, (jnR p q S (j + k)).testBit i = true
  | 0 => h
  | k + 1 => by
    show (jnStep p q (jnR p q S (j + k)) (j + k)).testBit i = true
    rw [jnStep_bit, jnR_more h k]; rfl
def ClosedJ (m : Nat) (p q : Nat → Nat) (S : Nat) : Prop := ∀ j, j < m → S.testBit (p j) = S.testBit (q j)
theorem jnR_closed {p q : Nat → Nat} {S m : Nat} (h : ClosedJ m p q S) : ∀ j, j ≤ m → jnR p q S j = S
  | 0, _ => rfl
  | j + 1, hj => by
    show jnStep _ _ _ _ = S
    rw [jnR_closed h j (by omega)]
    apply Nat.eq_of_testBit_eq
    intro i
    rw [jnStep_bit]
    have h1 := h j (by omega)
    cases hp : S.testBit (p j)
    · rw [← h1, hp]; simp
    · rw [← h1, hp]
      cases hi : S.testBit i
      · by_cases h2 : p j = i
        · rw [h2] at hp; rw [hp] at hi; cases hi
        · by_cases h3 : q j = i
          · rw [hp, h3] at h1; rw [← h1] at hi; cases hi
          · simp [h2, h3]
      · rfl
theorem jnR_in {p q : Nat → Nat} {S m : Nat} {C : Nat → Prop} (hS : ∀ i, S.testBit i = true → C i) (hC : ∀ j, j < m → (C (p j) ↔ C (q j))) : ∀ j, j ≤ m → ∀ i, (jnR p q S j).testBit i = true → C i
  | 0, _, i, h => hS i h
  | j + 1, hj, i, h => by
    have ih := jnR_in hS hC j (by omega)
    have h : (jnStep _ _ _ _).testBit i = true := h
    rw [jnStep_bit] at h
    simp only [Bool.or_eq_true, Bool.and_eq_true, decide_eq_true_iff] at h
    have hc := hC j (by omega)
    rcases h with h | ⟨h1, h2⟩
    · exact ih i h
    · rcases h1 with h1 | h1 <;> rcases h2 with rfl | rfl
      · exact ih _ h1
      · exact hc.1 (ih _ h1)
      · exact hc.2 (ih _ h1)
      · exact ih _ h1
theorem jnN_in {p q : Nat → Nat} {S m : Nat} {C : Nat → Prop} (hS : ∀ i, S.testBit i = true → C i) (hC : ∀ j, j < m → (C (p j) ↔ C (q j))) : ∀ k i, (jnN p q m S k).testBit i = true → C i
  | 0, i, h => hS i h
  | k + 1, i, h => jnR_in (jnN_in hS hC k) hC m (Nat.le_refl _) i h
theorem jnN_up {p q : Nat → Nat} {S m i : Nat} (h : S.testBit i = true) : ∀ k, (jnN p q m S k).testBit i = true
  | 0 => h
  | k + 1 => jnR_up (jnN_up h k) m
def cntB (n S : Nat) : Nat := sumN n fun i => if S.testBit i then 1 else 0
theorem cnt_more {n S T i : Nat} (hup : ∀ j, S.testBit j = true → T.testBit j = true) (hi : i < n) (h1 : S.testBit i = false) (h2 : T.testBit i = true) : cntB n S + 1 ≤ cntB n T := by
  have a := sumN_put (g := fun j => if S.testBit j then 1 else 0) (h := fun j => if j = i then 1 else if S.testBit j then 1 else 0) hi fun j _ hne => by rw [if_neg hne]
  have b := sumN_mono (n := n) (g := fun j => if j = i then 1 else if S.testBit j then 1 else 0) (h := fun j => if T.testBit j then 1 else 0) fun j _ => by
    by_cases hj : j = i
    · subst hj; simp [h2]
    · simp only [if_neg hj]
      cases hs : S.testBit j
      · simp
      · simp [hup j hs]
  simp only [h1, if_true, Bool.false_eq_true, if_false] at a
  unfold cntB
  omega
theorem jn_grow {n m : Nat} {p q : Nat → Nat} (hlk : ∀ j, j < m → p j < n ∧ q j < n ∧ p j ≠ q j) (S : Nat) (h : ¬ ClosedJ m p q S) : cntB n S + 1 ≤ cntB n (jnR p q S m) := by
  have h : ∃ j, j < m ∧ S.testBit (p j) ≠ S.testBit (q j) := by
    apply Classical.byContradiction
    intro h2
    exact h fun j hj => Classical.byContradiction fun h3 => h2 ⟨j, hj, h3⟩
  obtain ⟨j, hj, hne⟩ := h
  have key : ∀ i, (decide (p j = i) || decide (q j = i)) = true → (jnR p q S m).testBit i = true := by
    intro i hi
    have h1 : (jnR p q S (j + 1)).testBit i = true := by
      show (jnStep _ _ _ _).testBit i = true
      have h2 : ((jnR p q S j).testBit (p j) || (jnR p q S j).testBit (q j)) = true := by
        cases hp : S.testBit (p j)
        · have : S.testBit (q j) = true := by
            cases hq : S.testBit (q j)
            · rw [hp, hq] at hne; exact absurd rfl hne
            · rfl
          rw [jnR_up this j, Bool.or_true]
        · rw [jnR_up hp j]; rfl
      rw [jnStep_bit, h2, hi]; simp
    have := jnR_more h1 (m - (j + 1))
    rwa [show j + 1 + (m - (j + 1)) = m by omega] at this
  obtain ⟨hp, hq, _⟩ := hlk j hj
  cases h1 : S.testBit (p j)
  · exact cnt_more (fun i hi => jnR_up hi m) hp h1 (key _ (by simp))
  · have h2 : S.testBit (q j) = false := by
      cases hq2 : S.testBit (q j)
      · rfl
      · rw [h1, hq2] at hne; exact absurd rfl hne
    exact cnt_more (fun i hi => jnR_up hi m) hq h2 (key _ (by simp))
theorem jn_end {n m st : Nat} {p q : Nat → Nat} (hlk : ∀ j, j < m → p j < n ∧ q j < n ∧ p j ≠ q j) (hst : st < n) : ClosedJ m p q (jnN p q m (2 ^ st) n) := by
  have hb : (2 ^ st).testBit st = true := by rw [Nat.testBit_two_pow]; simp
  have key : ∀ k, ClosedJ m p q (jnN p q m (2 ^ st) k) ∨ k + 1 ≤ cntB n (jnN p q m (2 ^ st) k) := by
    intro k
    induction k with
    | zero =>
      right
      have := sumN_pos (g := fun i => if (2 ^ st).testBit i then 1 else 0) hst
      simp only [hb, if_true] at this
      exact this
    | succ k ih =>
      by_cases hc : ClosedJ m p q (jnN p q m (2 ^ st) k)
      · left
        show ClosedJ m p q (jnR _ _ _ _)
        rw [jnR_closed hc m (Nat.le_refl _)]; exact hc
      · right
        have h1 := jn_grow hlk _ hc
        have h2 := ih.resolve_left hc
        show _ ≤ cntB n (jnR _ _ _ _)
        omega
  rcases key n with h | h
  · exact h
  · have := sumN_le (g := fun i => if (jnN p q m (2 ^ st) n).testBit i then 1 else 0) (c := 1) (n := n) fun j _ => by split <;> omega
    unfold cntB at h
    omega
theorem jnStep_lt {p q : Nat → Nat} {S j : Nat} (hS : S < 64) (hp : p j < 6) (hq : q j < 6) : jnStep p q S j < 64 := by
  unfold jnStep
  split
  · exact or_lt (n := 6) (or_lt (n := 6) hS hp) hq
  · exact hS
theorem jnR_lt {p q : Nat → Nat} {S m : Nat} (hS : S < 64) (h : ∀ j, j < m → p j < 6 ∧ q j < 6) : ∀ j, j ≤ m → jnR p q S j < 64
  | 0, _ => hS
  | j + 1, hj => jnStep_lt (jnR_lt hS h j (by omega)) (h j (by omega)).1 (h j (by omega)).2
theorem jnN_lt {p q : Nat → Nat} {S m : Nat} (hS : S < 64) (h : ∀ j, j < m → p j < 6 ∧ q j < 6) : ∀ k, jnN p q m S k < 64
  | 0 => hS
  | k + 1 => jnR_lt (jnN_lt hS h k) h m (Nat.le_refl _)
def ownL (p : Nat → Nat) (S : Nat) : Nat → Nat := fun m => sumN m fun j => if S.testBit (p j) then 1 else 0
/-- What EchoDone asks. -/
structure DoneI (n st m : Nat) (p q : Nat → Nat) (S : Nat) (F : Nat → Int) (dn : Bool) (sn : Nat) : Prop where
  le : sn ≤ 2 * ownL p S m
  own : dn = false → 0 < ownL p S m
  eq : dn = true → sn = 2 * ownL p S m
  bit : dn = true → ∀ i, i < n → i ≠ st → (S.testBit i = true ↔ 0 ≤ F i)
theorem EI.doneI {n st m : Nat} {S : ES} {rc : Nat → Nat → Bool} {dep : Nat → Nat} {p q : Nat → Nat} (h : EI n st S rc dep) (hlk : LkP n m p q) (hN : S.near = nearS p q m) : DoneI n st m p q (jnN p q m (2 ^ st) n) (upd S.frm st (-1)) (decide (S.wait st = 0)) S.sent := by
  have hcl := jn_end hlk.at_ h.hst
  have hst1 : (jnN p q m (2 ^ st) n).testBit st = true := jnN_up (by rw [Nat.testBit_two_pow]; simp) n
  have hin : ∀ C : Nat → Prop, C st → (∀ j, j < m → (C (p j) ↔ C (q j))) → ∀ i, (jnN p q m (2 ^ st) n).testBit i = true → C i := fun C h1 h2 => jnN_in (fun i hi => by
    rw [Nat.testBit_two_pow, decide_eq_true_iff] at hi
    rw [← hi]; exact h1) h2 n
  obtain ⟨T, hT⟩ : ∃ T, T = jnN p q m (2 ^ st) n := ⟨_, rfl⟩
  rw [← hT] at hcl hst1 hin ⊢
  clear hT
  have hnear : ∀ a b, b ∈ S.near a → T.testBit a = T.testBit b := by
    intro a b hb
    rw [hN] at hb
    obtain ⟨k, hk, h1⟩ := nearS_link.1 hb
    have := hcl k hk
    rcases h1 with ⟨h1, h2⟩ | ⟨_, h1, h2⟩
    · rw [← h1, ← h2]; exact this
    · rw [← h1, ← h2]; exact this.symm
  have hhd : ∀ d a, a < n → S.frm a ≠ -1 → dep a = d → T.testBit a = true := by
    intro d
    induction d with
    | zero =>
      intro a ha hh hd
      rcases h.heard ha hh with rfl | ⟨b, _, _, _, _, _, h6⟩
      · exact hst1
      · omega
    | succ d ih =>
      intro a ha hh hd
      rcases h.heard ha hh with rfl | ⟨b, hb, _, h3, _, h5, h6⟩
      · exact hst1
      · rw [hnear a b h3]
        exact ih b hb h5 (by omega)
  have hsum : sumN n (fun a => if T.testBit a then (S.near a).length else 0) = 2 * ownL p T m := by
    have h1 := deg_sum (n := n) (m := m) (p := p) (q := q) hlk.at_ (fun a => T.testBit a) m (Nat.le_refl _)
    rw [sumN_congr (g := fun a => if T.testBit a then (nearK p q m a).length else 0) (fun a _ => by rw [hN, nearS_len]), h1]
    rw [sumN_congr (g := fun j => (if T.testBit (p j) then 1 else 0) + (if T.testBit (p j) then 1 else 0)) (fun j hj => by rw [hcl j hj]), sumN_add]
    unfold ownL
    omega
  have hout : ∀ a, a < n → outN S a ≤ if T.testBit a then (S.near a).length else 0 := by
    intro a ha
    unfold outN
    by_cases h1 : S.frm a = -1
    · rw [if_pos h1]; omega
    · rw [if_neg h1, if_pos (hhd _ a ha h1 rfl)]
      split
      · exact Nat.le_refl _
      · rename_i h2
        rcases h.heard ha h1 with rfl | ⟨b, _, _, h3, _⟩
        · exact absurd h.fs h2
        · have := List.length_pos_of_mem h3
          split <;> omega
  have heard_all : S.wait st = 0 → ∀ i, T.testBit i = true → i < n ∧ S.frm i ≠ -1 := by
    intro hd
    refine hin (fun i => i < n ∧ S.frm i ≠ -1) ⟨h.hst, by rw [h.fs]; decide⟩ fun j hj => ?_
    have hat := hlk.at_ j hj
    have h1 : q j ∈ S.near (p j) := by rw [hN, nearS_link]; exact ⟨j, hj, .inl ⟨rfl, rfl⟩⟩
    have go : ∀ a b, b ∈ S.near a → (a < n ∧ S.frm a ≠ -1) → (b < n ∧ S.frm b ≠ -1) := fun a b hb ⟨ha, hh⟩ =>
      ⟨(h.nb a b hb).2.1, (h.near_heard ha (h.done_all hd _ a ha hh rfl) hb).2.1⟩
    exact ⟨go _ _ h1, go _ _ (h.nb _ _ h1).2.2.2⟩
  refine ⟨?_, fun hd => ?_, fun hd => ?_, fun hd i hi hne => ?_⟩
  · rw [h.snt, ← hsum]
    exact sumN_mono hout
  · have hd : S.wait st ≠ 0 := of_decide_eq_false hd
    have hw := h.wt st h.hst
    have hpos : 0 < (S.near st).length := by
      have := List.countP_le_length (p := fun b => !rc st b) (l := S.near st)
      omega
    obtain ⟨b, hb⟩ := List.exists_mem_of_length_pos hpos
    rw [hN] at hb
    obtain ⟨k, hk, h1⟩ := nearS_link.1 hb
    have hpk : T.testBit (p k) = true := by
      rcases h1 with ⟨h1, _⟩ | ⟨_, h1, _⟩
      · rw [h1]; exact hst1
      · rw [hcl k hk, h1]; exact hst1
    have := sumN_pos (g := fun j => if T.testBit (p j) then 1 else 0) hk
    simp only [hpk, if_true] at this
    unfold ownL
    omega
  · have hd := of_decide_eq_true hd
    rw [h.snt, ← hsum]
    refine sumN_congr fun a ha => ?_
    by_cases hb : T.testBit a = true
    · rw [if_pos hb]
      have h1 := (heard_all hd a hb).2
      unfold outN
      rw [if_neg h1]
      split
      · rfl
      · rename_i h2
        rcases h.heard ha h1 with rfl | ⟨b, _, _, h3, _⟩
        · exact absurd h.fs h2
        · have := List.length_pos_of_mem h3
          rw [if_pos (h.done_all hd _ a ha h1 rfl)]
          omega
    · rw [if_neg hb]
      unfold outN
      by_cases h1 : S.frm a = -1
      · rw [if_pos h1]
      · exact absurd (hhd _ a ha h1 rfl) hb
  · have hd := of_decide_eq_true hd
    rw [upd_ne _ _ hne]
    constructor
    · intro hb
      have h1 := (heard_all hd i hb).2
      rcases h.heard hi h1 with h2 | ⟨b, _, h2, _⟩
      · exact absurd h2 hne
      · omega
    · intro h1
      exact hhd _ i hi (by omega) rfl
set_option maxHeartbeats 1600000 in
theorem joined_any (n st : Nat) (A : Option Addr) (m cap B : Nat) (p q : Nat → Nat) (w : World) (hm : m ≤ 15) (h6 : n ≤ 6) (hst : st < n) (hlk : ∀ j, j < m → p j < n ∧ q j < n ∧ p j ≠ q j) (hB : B ≤ w.heap.size) (hr : Rd w B A (m * 2) (recF2 (fun i => (p i : Nat)) (fun i => (q i : Nat)))) :
    Calls Try.prog 9 #[.int .i64 (n : Nat), .slice A m cap, .int .i64 (st : Nat)] w (Gives fun v w' => v = .int .u32 (jnN p q m (2 ^ st) n : Nat) ∧ Below w.heap.size w w') := by
  have HR := Lib.hid (hr.more hB); clear hr
  have HP := Lib.hid (pow_mod (show st < 32 by omega))
  have hlt6 : ∀ j, j < m → p j < 6 ∧ q j < 6 := fun j hj => by have := hlk j hj; omega
  have h2 : 2 ^ st < 64 := Nat.lt_of_lt_of_le (Nat.pow_lt_pow_right (by omega) (show st < 6 by omega)) (by decide)
  have HLT := Lib.hid (jnN_lt h2 hlt6)
  have HL6 := Lib.hid hlt6
  clear hlt6 h2 hlk
  go_enter Try.func9, Try.ntmps9
  go_wp2
  go_loopw [7, 8] (fun s i wr => ∃ k : Nat, k ≤ n ∧ i = .int .i64 (k : Nat) ∧ s = .int .u32 (jnN p q m (2 ^ st) k : Nat) ∧ Hid (Below w.heap.size w wr)) (fun _ i _ => n - (intOf i).toNat)
  case atStart => exact ⟨0, by omega, rfl, by rw [HP.out]; rfl, Below.refl _ _⟩
  case round =>
    obtain ⟨k, hk, rfl, rfl, HB⟩ := hrel
    by_cases hkn : k < n
    · have hsn : jnN p q m (2 ^ st) (k + 1) = jnR p q (jnN p q m (2 ^ st) k) m := rfl
      have hS := HLT.out k
      generalize jnN p q m (2 ^ st) k = S at *
      have HSN := Lib.hid hsn
      have HRL := Lib.hid (jnR_lt hS HL6.out)
      clear hsn
      go_wp2
      go_loopw [7, 21] (fun s i wr => ∃ j : Nat, j ≤ m ∧ i = .int .i64 (j : Nat) ∧ s = .int .u32 (jnR p q S j : Nat) ∧ Hid (Below w.heap.size w wr)) (fun _ i _ => m - (intOf i).toNat)
      case atStart => exact ⟨0, by omega, rfl, rfl, HB⟩
      case round =>
        clear HB
        obtain ⟨j, hj, rfl, rfl, HB⟩ := hrel
        have hz := HB.out.size
        by_cases hjm : j < m
        · obtain ⟨ad, rfl, hbl, m0, m1⟩ := (HR.out.below HB.out).rec2 hjm
          have hbl2 : (ad.add (j * 2)).block < wr.heap.size := by rw [addr_block]; omega
          have hT := HRL.out j hj
          obtain ⟨hp6, hq6⟩ := HL6.out j hjm
          have hstp : jnR p q S (j + 1) = jnStep p q (jnR p q S j) j := rfl
          have HB1 : Hid (∀ o, Below w.heap.size w (wr.alloc o)) := fun o => HB.out.alloc hz o
          unfold jnStep at hstp
          generalize jnR p q S j = T at *
          generalize p j = x at *
          generalize q j = y at *
          have hb1 := bitB_nat T x
          have hb2 := bitB_nat T y
          have hT1 : T < 4294967296 := by omega
          have HT := Lib.hid hT1
          have ho1 := or_pow hT1 (show x < 32 by omega)
          have hT2 : T ||| 2 ^ x < 4294967296 := by have := or_lt (n := 6) (a := T) (m := x) (by omega) hp6; omega
          have ho2 := or_pow hT2 (show y < 32 by omega)
          cases hx : T.testBit x
          · rw [hx] at hb1
            cases hy : T.testBit y
            · rw [hy] at hb2
              have HS1 : Hid (jnR p q S (j + 1) = T) := Lib.hid (by rw [hstp, hx, hy]; rfl)
              have H1 := Lib.hid hb1
              have H2 := Lib.hid hb2
              clear hstp hx hy ho1 ho2 hT1 hT2 hb1 hb2
              go_wp2_with (first | (go_at_call 10; refine (bit_any T _ _ HT.out).mono ?_; rintro e w3 ⟨rfl, rfl⟩; first | rw [H1.out] | rw [H2.out]) | fail)
              go_roundw
              case rel => exact ⟨j + 1, by omega, by go_num, by rw [HS1.out], HB1.out _⟩
              case measure => simp [intOf]; omega
            · rw [hy] at hb2
              have HS1 : Hid (jnR p q S (j + 1) = T ||| 2 ^ x ||| 2 ^ y) := Lib.hid (by rw [hstp, hx, hy]; rfl)
              have H1 := Lib.hid hb1
              have H2 := Lib.hid hb2
              have HO1 := Lib.hid ho1
              have HO2 := Lib.hid ho2
              clear hstp hx hy ho1 ho2 hT1 hT2 hb1 hb2
              go_wp2_with (first | (go_at_call 10; refine (bit_any T _ _ HT.out).mono ?_; rintro e w3 ⟨rfl, rfl⟩; first | rw [H1.out] | rw [H2.out]) | fail)
              go_roundw
              case rel => exact ⟨j + 1, by omega, by go_num, by rw [HS1.out, HO1.out, HO2.out], HB1.out _⟩
              case measure => simp [intOf]; omega
          · rw [hx] at hb1
            have HS1 : Hid (jnR p q S (j + 1) = T ||| 2 ^ x ||| 2 ^ y) := Lib.hid (by rw [hstp, hx]; rfl)
            have H1 := Lib.hid hb1
            have HO1 := Lib.hid ho1
            have HO2 := Lib.hid ho2
            clear hstp hx ho1 ho2 hT1 hT2 hb1 hb2
            go_wp2_with (first | (go_at_call 10; refine (bit_any T _ _ HT.out).mono ?_; rintro e w3 ⟨rfl, rfl⟩; rw [H1.out]) | fail)
            go_roundw
            case rel => exact ⟨j + 1, by omega, by go_num, by rw [HS1.out, HO1.out, HO2.out], HB1.out _⟩
            case measure => simp [intOf]; omega
        · obtain rfl : m = j := by omega
          go_wp2
          go_roundw
          case rel => exact ⟨k + 1, by omega, by go_num, by rw [HSN.out], HB⟩
          case measure => simp [intOf]; omega
    · obtain rfl : n = k := by omega
      go_wp2
      go_ret
      exact ⟨_, rfl, rfl, HB.out⟩
end Go.Proofs.Ytcmbbioipbdonaa
