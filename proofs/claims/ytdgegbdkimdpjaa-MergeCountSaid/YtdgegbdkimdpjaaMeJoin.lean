/- Each joins each, twice over: plain. -/
import Derived.Test.YtdgegbdkimdpjaaMergeWins
set_option linter.unusedVariables false
set_option linter.unusedSimpArgs false
namespace Go.Proofs.Ytdgegbdkimdpjaa
open Go.RowKit

theorem join_ct (s : MeS) (i j a : Nat) : (meJoin s i j).ct a = if a = 2 * i + 1 then (fun k => max (s.ct (2 * i + 1) k) (s.ct (2 * j + 1) k)) else if a = 2 * i then (fun k => max (s.ct (2 * i) k) (s.ct (2 * j) k)) else s.ct a := rfl
/-- One number of each copy, under the joins of d + 1 copies. -/
def sc (d : Nat) (x : Nat → Nat) : Nat → Nat → Nat
  | 0 => x
  | q + 1 => if q % 2 = 0 then upd (sc d x q) 0 (max (sc d x q 0) (sc d x q ((q / 2) % d + 1))) else upd (sc d x q) ((q / 2) % d + 1) (max (sc d x q ((q / 2) % d + 1)) (sc d x q 0))
theorem sc_mono (d : Nat) (x : Nat → Nat) (q b : Nat) : sc d x q b ≤ sc d x (q + 1) b := by
  rw [sc]
  split
  · by_cases e : b = 0
    · subst e; rw [upd_same]; exact Nat.le_max_left _ _
    · rw [upd_ne _ _ e]; exact Nat.le_refl _
  · by_cases e : b = (q / 2) % d + 1
    · subst e; rw [upd_same]; exact Nat.le_max_left _ _
    · rw [upd_ne _ _ e]; exact Nat.le_refl _
theorem sc_mono2 (d : Nat) (x : Nat → Nat) (b : Nat) : ∀ {p q : Nat}, p ≤ q → sc d x p b ≤ sc d x q b := by
  intro p q h
  induction q with
  | zero => obtain rfl : p = 0 := (by omega); exact Nat.le_refl _
  | succ q ih =>
    rcases Nat.lt_or_ge p (q + 1) with h1 | h1
    · exact Nat.le_trans (ih (by omega)) (sc_mono d x q b)
    · obtain rfl : p = q + 1 := (by omega); exact Nat.le_refl _
theorem sc_le {d : Nat} {x : Nat → Nat} {M : Nat} (hd : 1 ≤ d) (h : ∀ b, b ≤ d → x b ≤ M) : ∀ q b, b ≤ d → sc d x q b ≤ M
  | 0, b, hb => h b hb
  | q + 1, b, hb => by
    have hi : (q / 2) % d + 1 ≤ d := Nat.mod_lt _ hd
    have ih := sc_le hd h q
    rw [sc]
    split
    · by_cases e : b = 0
      · subst e; rw [upd_same]; exact Nat.max_le.2 ⟨ih 0 (by omega), ih _ hi⟩
      · rw [upd_ne _ _ e]; exact ih b hb
    · by_cases e : b = (q / 2) % d + 1
      · subst e; rw [upd_same]; exact Nat.max_le.2 ⟨ih _ hi, ih 0 (by omega)⟩
      · rw [upd_ne _ _ e]; exact ih b hb
theorem sc_one {d : Nat} {x : Nat → Nat} : ∀ i, i ≤ d → ∀ b, b ≤ i → x b ≤ sc d x (2 * i) 0
  | 0, _, b, hb => by
    obtain rfl : b = 0 := by omega
    exact Nat.le_refl _
  | i + 1, hi, b, hb => by
    have hm : sc d x (2 * i + 1) 0 ≤ sc d x (2 * (i + 1)) 0 := sc_mono2 d x 0 (by omega)
    refine Nat.le_trans ?_ hm
    rw [sc, if_pos (by omega), upd_same, show 2 * i / 2 = i by omega, Nat.mod_eq_of_lt (by omega)]
    rcases Nat.lt_or_ge b (i + 1) with h1 | h1
    · exact Nat.le_trans (sc_one i (by omega) b (by omega)) (Nat.le_max_left _ _)
    · obtain rfl : b = i + 1 := by omega
      exact Nat.le_trans (sc_mono2 d x (i + 1) (show 0 ≤ 2 * i by omega)) (Nat.le_max_right _ _)
theorem top_of (d : Nat) (x : Nat → Nat) : ∃ M, (∀ b, b ≤ d → x b ≤ M) ∧ ∃ b, b ≤ d ∧ x b = M := by
  induction d with
  | zero => exact ⟨x 0, fun b hb => (by obtain rfl : b = 0 := (by omega); exact Nat.le_refl _), 0, Nat.le_refl _, rfl⟩
  | succ d ih =>
    obtain ⟨M, h1, b, h2, h3⟩ := ih
    by_cases h : x (d + 1) ≤ M
    · refine ⟨M, fun c hc => ?_, b, by omega, h3⟩
      rcases Nat.lt_or_ge c (d + 1) with h4 | h4
      · exact h1 c (by omega)
      · obtain rfl : c = d + 1 := (by omega); exact h
    · refine ⟨x (d + 1), fun c hc => ?_, d + 1, Nat.le_refl _, rfl⟩
      rcases Nat.lt_or_ge c (d + 1) with h4 | h4
      · have := h1 c (by omega); omega
      · obtain rfl : c = d + 1 := (by omega); exact Nat.le_refl _
/-- Behind two rounds all have the greatest. -/
theorem sc_all {d : Nat} {x : Nat → Nat} {M : Nat} (h : ∀ b, b ≤ d → x b ≤ M) (hM : ∃ b, b ≤ d ∧ x b = M) : ∀ b, b ≤ d → sc d x (4 * d) b = M := by
  rcases Nat.eq_zero_or_pos d with h0 | hd
  · subst h0
    intro b hb
    obtain rfl : b = 0 := by omega
    obtain ⟨c, hc, e⟩ := hM
    obtain rfl : c = 0 := by omega
    exact e
  · have zero : ∀ q, 2 * d ≤ q → sc d x q 0 = M := fun q hq => by
      obtain ⟨c, hc, e⟩ := hM
      have h1 := sc_one (d := d) (x := x) d (Nat.le_refl _) c hc
      have h2 := sc_mono2 d x 0 hq
      have h3 := sc_le hd h q 0 (by omega)
      omega
    have two : ∀ i, i ≤ d → ∀ b, 1 ≤ b → b ≤ i → M ≤ sc d x (2 * d + 2 * i) b := by
      intro i
      induction i with
      | zero => intro _ b h1 h2; omega
      | succ i ih =>
        intro hi b h1 h2
        rcases Nat.lt_or_ge b (i + 1) with h3 | h3
        · exact Nat.le_trans (ih (by omega) b h1 (by omega)) (sc_mono2 d x b (by omega))
        · obtain rfl : b = i + 1 := by omega
          have e : 2 * d + 2 * (i + 1) = (2 * d + 2 * i + 1) + 1 := by omega
          rw [e, sc, if_neg (by omega)]
          have hidx : (2 * d + 2 * i + 1) / 2 % d + 1 = i + 1 := by
            rw [show (2 * d + 2 * i + 1) / 2 = d + i by omega, Nat.add_mod_left, Nat.mod_eq_of_lt (by omega)]
          rw [hidx, upd_same, zero _ (by omega)]
          exact Nat.le_max_right _ _
    intro b hb
    rcases Nat.eq_zero_or_pos b with h0 | h0
    · subst h0; exact zero _ (by omega)
    · have h1 := two d (Nat.le_refl _) b h0 hb
      rw [show 2 * d + 2 * d = 4 * d by omega] at h1
      have h2 := sc_le hd h (4 * d) b hb
      omega
/-- The joins, as moves. -/
def JM (d : Nat) : Mv := ⟨fun _ => 4, fun q => if q % 2 = 0 then 0 else (((q / 2) % d + 1 : Nat) : Int), fun q => if q % 2 = 0 then (((q / 2) % d + 1 : Nat) : Int) else 0, fun _ => 0⟩
def jn (d : Nat) (s : MeS) : Nat → MeS
  | 0 => s
  | q + 1 => if q % 2 = 0 then meJoin (jn d s q) 0 ((q / 2) % d + 1) else meJoin (jn d s q) ((q / 2) % d + 1) 0
def b2n (b : Bool) : Nat := if b = true then 1 else 0
theorem b2n_or (a b : Bool) : b2n (a || b) = max (b2n a) (b2n b) := by cases a <;> cases b <;> rfl
theorem b2n_inj {a b : Bool} (h : b2n a = b2n b) : a = b := by cases a <;> cases b <;> first | rfl | (simp [b2n] at h)
theorem join_b (s : MeS) (i j e a : Nat) (t : Tag) (he : e ≤ 1) : b2n ((meJoin s i j).st (2 * a + e) t) = upd (fun c => b2n (s.st (2 * c + e) t)) i (max (b2n (s.st (2 * i + e) t)) (b2n (s.st (2 * j + e) t))) a := by
  rw [join_st]
  rcases (show e = 0 ∨ e = 1 by omega) with rfl | rfl
  · rw [if_neg (by omega)]
    by_cases h : a = i
    · subst h; rw [if_pos (by omega), upd_same]; exact b2n_or _ _
    · rw [if_neg (by omega), upd_ne _ _ h]
  · by_cases h : a = i
    · subst h; rw [if_pos rfl, upd_same]; exact b2n_or _ _
    · rw [if_neg (by omega), if_neg (by omega), upd_ne _ _ h]
theorem join_n (s : MeS) (i j e a k : Nat) (he : e ≤ 1) : (meJoin s i j).ct (2 * a + e) k = upd (fun c => s.ct (2 * c + e) k) i (max (s.ct (2 * i + e) k) (s.ct (2 * j + e) k)) a := by
  rw [join_ct]
  rcases (show e = 0 ∨ e = 1 by omega) with rfl | rfl
  · rw [if_neg (by omega)]
    by_cases h : a = i
    · subst h; rw [if_pos (by omega), upd_same]; rfl
    · rw [if_neg (by omega), upd_ne _ _ h]
  · by_cases h : a = i
    · subst h; rw [if_pos rfl, upd_same]
    · rw [if_neg (by omega), if_neg (by omega), upd_ne _ _ h]
theorem jn_b (d : Nat) (s : MeS) (e : Nat) (t : Tag) (he : e ≤ 1) : ∀ q a, b2n ((jn d s q).st (2 * a + e) t) = sc d (fun c => b2n (s.st (2 * c + e) t)) q a
  | 0, a => rfl
  | q + 1, a => by
    have ih := jn_b d s e t he q
    have hf : (fun c => b2n ((jn d s q).st (2 * c + e) t)) = sc d (fun c => b2n (s.st (2 * c + e) t)) q := funext ih
    rw [jn, sc]
    split
    · rw [join_b _ _ _ _ _ _ he, hf, ← ih, ← ih]
    · rw [join_b _ _ _ _ _ _ he, hf, ← ih, ← ih]
theorem jn_n (d : Nat) (s : MeS) (e k : Nat) (he : e ≤ 1) : ∀ q a, (jn d s q).ct (2 * a + e) k = sc d (fun c => s.ct (2 * c + e) k) q a
  | 0, a => rfl
  | q + 1, a => by
    have ih := jn_n d s e k he q
    have hf : (fun c => (jn d s q).ct (2 * c + e) k) = sc d (fun c => s.ct (2 * c + e) k) q := funext ih
    rw [jn, sc]
    split
    · rw [join_n _ _ _ _ _ _ he, hf, ← ih, ← ih]
    · rw [join_n _ _ _ _ _ _ he, hf, ← ih, ← ih]
/-- The copies are all the same. -/
def Flat (d : Nat) (s : MeS) : Prop := ∀ a, a ≤ d → ∀ e, e ≤ 1 → (∀ t, s.st (2 * a + e) t = s.st e t) ∧ ∀ k, s.ct (2 * a + e) k = s.ct e k
theorem flat_all (d : Nat) (s : MeS) : Flat d (jn d s (4 * d)) := by
  intro a ha e he
  have h0 : ∀ (x : MeS), (∀ t, x.st (2 * 0 + e) t = x.st e t) ∧ ∀ k, x.ct (2 * 0 + e) k = x.ct e k := fun x => by rw [Nat.mul_zero, Nat.zero_add]; exact ⟨fun _ => rfl, fun _ => rfl⟩
  refine ⟨fun t => b2n_inj ?_, fun k => ?_⟩
  · obtain ⟨M, h1, h2⟩ := top_of d (fun c => b2n (s.st (2 * c + e) t))
    rw [← (h0 _).1 t, jn_b _ _ _ _ he, jn_b _ _ _ _ he, sc_all h1 h2 a ha, sc_all h1 h2 0 (by omega)]
  · obtain ⟨M, h1, h2⟩ := top_of d (fun c => s.ct (2 * c + e) k)
    rw [← (h0 _).2 k, jn_n _ _ _ _ he, jn_n _ _ _ _ he, sc_all h1 h2 a ha, sc_all h1 h2 0 (by omega)]
theorem flat_stays {d : Nat} {s : MeS} (h : Flat d s) (a : Nat) (ha : a ≤ d) (e : Nat) (he : e ≤ 1) : (∀ t, (jn d s (4 * d)).st (2 * a + e) t = s.st (2 * a + e) t) ∧ ∀ k, (jn d s (4 * d)).ct (2 * a + e) k = s.ct (2 * a + e) k := by
  refine ⟨fun t => b2n_inj ?_, fun k => ?_⟩
  · rw [jn_b _ _ _ _ he]
    refine sc_all (fun b hb => ?_) ⟨a, ha, rfl⟩ a ha
    show b2n (s.st (2 * b + e) t) ≤ b2n (s.st (2 * a + e) t)
    rw [(h b hb e he).1, (h a ha e he).1]; exact Nat.le_refl _
  · rw [jn_n _ _ _ _ he]
    refine sc_all (fun b hb => ?_) ⟨a, ha, rfl⟩ a ha
    show s.ct (2 * b + e) k ≤ s.ct (2 * a + e) k
    rw [(h b hb e he).2, (h a ha e he).2]; exact Nat.le_refl _
theorem meHas_eq {s s' : MeS} {a a' : Nat} (h1 : ∀ t, s.st (2 * a) t = s'.st (2 * a') t) (h2 : ∀ t, s.st (2 * a + 1) t = s'.st (2 * a' + 1) t) : inL s a = inL s' a' := by
  have : ∀ x t, leftT s a x t = leftT s' a' x t := fun x t => by rw [leftT, leftT, h1, h2]
  unfold inL hasB
  congr 1
  funext x
  congr 1
  funext k
  exact this x _
theorem cnt_eq {s s' : MeS} {a a' : Nat} (h1 : ∀ k, s.ct (2 * a) k = s'.ct (2 * a') k) (h2 : ∀ k, s.ct (2 * a + 1) k = s'.ct (2 * a' + 1) k) : ∀ n, cntI s a n = cntI s' a' n
  | 0 => rfl
  | n + 1 => by rw [cntI, cntI, cnt_eq h1 h2 n, h1, h2]
/-- A run behind which all joins stand. -/
theorem run_joins {d m : Nat} {M N : Mv} (hd : d + 1 ≤ 6) (hN : ∀ q, q < 4 * d → N.k (m + q) = 4 ∧ N.f (m + q) = (JM d).f q ∧ N.t (m + q) = (JM d).t q) (h0 : meSt (d + 1) N m = meSt (d + 1) M m) : ∀ q, q ≤ 4 * d → meSt (d + 1) N (m + q) = jn d (meSt (d + 1) M m) q
  | 0, _ => h0
  | q + 1, hq => by
    have ih := run_joins hd hN h0 q (by omega)
    obtain ⟨e1, e2, e3⟩ := hN q (by omega)
    have hi : (q / 2) % d + 1 ≤ d := Nat.mod_lt _ (by omega)
    rw [show m + (q + 1) = m + q + 1 by omega, meSt, ih, jn, meDo, e1, e2, e3]
    unfold JM
    simp only
    by_cases h2 : q % 2 = 0
    · rw [if_pos h2, if_pos h2, if_pos h2, if_neg (by omega), if_neg (by omega), if_neg (by omega), if_neg (by omega), if_neg (by omega), if_neg (by omega)]
      rw [Int.toNat_natCast]; rfl
    · rw [if_neg h2, if_neg h2, if_neg h2, if_neg (by omega), if_neg (by omega), if_neg (by omega), if_neg (by omega), if_neg (by omega), if_neg (by omega)]
      rw [Int.toNat_natCast]; rfl
end Go.Proofs.Ytdgegbdkimdpjaa
