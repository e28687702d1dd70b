/- The document's Reach: whom one comes to. -/
import Derived.Test.YtgfogcaklcnliaaBit
import Derived.Test.YtgfogcaklcnliaaCyc
set_option linter.unusedVariables false
set_option linter.unusedSimpArgs false
namespace Go.Proofs.Ytgfogcaklcnliaa
open Go.RowKit Relation

/-- One round over the first m. -/
def rin (f : Nat → Nat) : Nat → Nat → Nat
  | 0, s => s
  | m + 1, s => if (rin f m s).testBit m then rin f m s ||| f m else rin f m s
def rout (f : Nat → Nat) (n i : Nat) : Nat → Nat
  | 0 => f i
  | r + 1 => rin f n (rout f n i r)
def reachN (f : Nat → Nat) (n i : Nat) : Nat := rout f n i n
def To (f : Nat → Nat) (n : Nat) (a b : Nat) : Prop := a < n ∧ (f a).testBit b = true
section
variable {f : Nat → Nat} {n : Nat}
theorem rin_step (f : Nat → Nat) (m s : Nat) : rin f (m + 1) s = if (rin f m s).testBit m then rin f m s ||| f m else rin f m s := rfl
theorem rin_lt (hf : ∀ k, k < n → f k < 2 ^ n) {m s : Nat} (hm : m ≤ n) (hs : s < 2 ^ n) : rin f m s < 2 ^ n := by
  induction m with
  | zero => exact hs
  | succ m ih =>
    rw [rin]
    split
    · exact Nat.or_lt_two_pow (ih (by omega)) (hf m (by omega))
    · exact ih (by omega)
theorem rout_lt (hf : ∀ k, k < n → f k < 2 ^ n) {i : Nat} (hi : i < n) (r : Nat) : rout f n i r < 2 ^ n := by
  induction r with
  | zero => exact hf i hi
  | succ r ih => exact rin_lt hf (Nat.le_refl _) ih
theorem rin_step_sub (f : Nat → Nat) (m s : Nat) {j : Nat} (h : (rin f m s).testBit j = true) : (rin f (m + 1) s).testBit j = true := by
  rw [rin]
  split
  · rw [Nat.testBit_or, h]; rfl
  · exact h
theorem rin_rise (f : Nat → Nat) (s : Nat) {m m' : Nat} (hm : m ≤ m') {j : Nat} (h : (rin f m s).testBit j = true) : (rin f m' s).testBit j = true := by
  induction hm with
  | refl => exact h
  | step _ ih => exact rin_step_sub f _ s ih
theorem rin_has {s j k : Nat} (hj : j < n) (hs : s.testBit j = true) (hk : (f j).testBit k = true) : (rin f n s).testBit k = true := by
  refine rin_rise f s (m := j + 1) (by omega) ?_
  have : (rin f j s).testBit j = true := rin_rise f s (Nat.zero_le j) hs
  rw [rin, if_pos this, Nat.testBit_or, hk, Bool.or_true]
theorem rin_snd {P : Nat → Prop} {m s : Nat} (hm : m ≤ n) (hP : ∀ a b, P a → a < n → (f a).testBit b = true → P b) (hs : ∀ j, s.testBit j = true → P j) : ∀ j, (rin f m s).testBit j = true → P j := by
  induction m with
  | zero => exact hs
  | succ m ih =>
    intro j hj
    have ih := ih (by omega)
    rw [rin] at hj
    split at hj
    · rename_i hb
      rw [Nat.testBit_or, Bool.or_eq_true] at hj
      rcases hj with hj | hj
      · exact ih j hj
      · exact hP m j (ih m hb) (by omega) hj
    · exact ih j hj
theorem rout_rise (f : Nat → Nat) (n i : Nat) {r r' : Nat} (hr : r ≤ r') {j : Nat} (h : (rout f n i r).testBit j = true) : (rout f n i r').testBit j = true := by
  induction hr with
  | refl => exact h
  | step _ ih => exact rin_rise f _ (Nat.zero_le n) ih
theorem reach_iff (hf : ∀ k, k < n → f k < 2 ^ n) {i : Nat} (hi : i < n) (k : Nat) : (reachN f n i).testBit k = true ↔ TransGen (To f n) i k := by
  constructor
  · have key : ∀ r j, (rout f n i r).testBit j = true → TransGen (To f n) i j := by
      intro r
      induction r with
      | zero => intro j hj; exact .single ⟨hi, hj⟩
      | succ r ih => exact rin_snd (Nat.le_refl _) (fun a b ha hl hb => .tail ha ⟨hl, hb⟩) ih
    exact key n k
  · intro hk
    apply Classical.byContradiction
    intro hno
    have hcl : ∀ r, r ≤ n → ∃ b, b < n ∧ (rout f n i r).testBit b = false ∧ (rout f n i (r + 1)).testBit b = true := by
      intro r hr
      apply Classical.byContradiction
      intro h
      apply hno
      refine rout_rise f n i hr ?_
      have closed : ∀ a b, (rout f n i r).testBit a = true → To f n a b → (rout f n i r).testBit b = true := by
        intro a b ha ⟨hl, hb⟩
        cases hc : (rout f n i r).testBit b with
        | true => rfl
        | false =>
          refine absurd ⟨b, ?_, hc, rin_has hl ha hb⟩ h
          exact Nat.lt_of_not_le fun hge => by
            rw [Nat.testBit_lt_two_pow (Nat.lt_of_lt_of_le (hf a hl) (Nat.pow_le_pow_right (by omega) hge))] at hb
            cases hb
      have all : ∀ c, TransGen (To f n) i c → (rout f n i r).testBit c = true := by
        intro c hc
        clear hno h hk
        induction hc with
        | single h1 => exact rout_rise f n i (Nat.zero_le r) h1.2
        | tail _ h2 ih => exact closed _ _ ih h2
      exact all k hk
    have hs : ∃ s : Nat → Nat, ∀ r, r ≤ n → s r < n ∧ (rout f n i r).testBit (s r) = false ∧ (rout f n i (r + 1)).testBit (s r) = true := by
      refine ⟨fun r => if h : r ≤ n then (hcl r h).choose else 0, fun r hr => ?_⟩
      simp only [hr, dite_true]
      exact (hcl r hr).choose_spec
    obtain ⟨s, hs⟩ := hs
    obtain ⟨a, b, hab, hb, he⟩ := pigeon n s (fun k hk => (hs k hk).1)
    have h1 := rout_rise f n i (r := a + 1) (r' := b) (by omega) (hs a (by omega)).2.2
    rw [he, (hs b hb).2.1] at h1
    cases h1
end

set_option maxHeartbeats 1000000 in
theorem reach_any (A : Option Addr) (n cap B : Nat) (f : Nat → Nat) (i : Nat) (w : World) (h6 : n ≤ 6) (hi : i < n) (hf : ∀ k, k < n → f k < 2 ^ n) (hr : Rd w B A n (fun j => .int .u32 (f j : Nat))) :
    Calls Try.prog 23 #[.slice A n cap, .int .i64 (i : Nat)] w fun e w' => e = .returned (.int .u32 (reachN f n i : Nat)) ∧ w = w' := by
  obtain ⟨ad, rfl, hbl, hc⟩ := hr (by omega)
  have HC := Lib.hid hc
  have hci := hc i hi
  have HF := Lib.hid hf
  have H64 : Hid (∀ x, x < 2 ^ n → x < 64) := Lib.hid fun x hx => Nat.lt_of_lt_of_le hx (Nat.pow_le_pow_right (n := 2) (by omega) h6)
  clear hc hbl hf hr
  go_enter Try.func23, Try.ntmps23
  go_wp2
  clear hci
  go_loop [5, 6] (fun s k => ∃ r : Nat, r ≤ n ∧ k = .int .i64 r ∧ s = .int .u32 (rout f n i r : Nat)) (fun _ k => n - (intOf k).toNat)
  case atStart => exact ⟨0, by omega, rfl, rfl⟩
  case round =>
    obtain ⟨r, hr, rfl, rfl⟩ := hrel
    by_cases hlt : r < n
    · have HRL := Lib.hid (rout_lt HF.out hi r)
      have HRN : Hid (rin f n (rout f n i r) = rout f n i (r + 1)) := Lib.hid rfl
      have HR0 : Hid (rin f 0 (rout f n i r) = rout f n i r) := Lib.hid rfl
      generalize rout f n i r = S at HRL HRN HR0 ⊢
      go_wp2
      go_loop [5, 7] (fun s k => ∃ m : Nat, m ≤ n ∧ k = .int .i64 m ∧ s = .int .u32 (rin f m S : Nat)) (fun _ k => n - (intOf k).toNat)
      case atStart => exact ⟨0, by omega, rfl, by rw [HR0.out]⟩
      case round =>
        obtain ⟨m, hm, rfl, rfl⟩ := hrel
        by_cases hlm : m < n
        · have hcm := HC.out m hlm
          have HN := Lib.hid (rin_step f m S)
          have HL := Lib.hid (H64.out _ (rin_lt HF.out hm HRL.out))
          have HM := Lib.hid (H64.out _ (HF.out m hlm))
          have HB := Lib.hid (bitB_nat (rin f m S) m)
          have HO : Hid (bits .or .u32 (rin f m S : Int) (f m : Int) = ((rin f m S ||| f m : Nat) : Int)) := Lib.hid (u32_or_nat _ _ (by have := HL.out; omega) (by have := HM.out; omega))
          generalize rin f m S = T at HN HL HB HO ⊢
          cases hb : T.testBit m
          all_goals
            have HT := Lib.hid hb
            clear hb
            go_wp2_with fail
            refine (bit_is _ T m _ (by have := HL.out; omega) (HB.out.trans HT.out)).mono ?_
            rintro e w' ⟨rfl, rfl⟩
            go_wp2
            go_round
            case rel => exact ⟨m + 1, by omega, by go_num, by rw [HN.out, HT.out]; simp only [Bool.false_eq_true, if_false, if_true, HO.out]⟩
            case measure => simp [intOf]; omega
        · obtain rfl : m = n := by omega
          go_wp2
          go_round
          case rel => exact ⟨r + 1, by omega, by go_num, by rw [HRN.out]⟩
          case measure => simp [intOf]; omega
    · obtain rfl : r = n := by omega
      go_wp2
      go_ret
      exact ⟨rfl, rfl⟩
end Go.Proofs.Ytgfogcaklcnliaa
