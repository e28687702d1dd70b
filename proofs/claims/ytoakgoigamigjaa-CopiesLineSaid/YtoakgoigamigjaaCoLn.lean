/- An order by stamps is one that may be (plain). -/
import Derived.Test.YtoakgoigamigjaaLnMath
set_option linter.unusedVariables false
set_option linter.unusedSimpArgs false
namespace Go.Proofs.Ytoakgoigamigjaa
open Go.RowKit

def keyO (o : Opl) (σ : Nat → Nat) (C : Nat) (i : Nat) : Nat := (2 * σ i + if o.wr i then 0 else 1) * C + (o.bg i).toNat
/-- What an order by stamps asks. -/
structure Stamped (o : Opl) (σ : Nat → Nat) (C : Nat) : Prop where
  bg : ∀ i, i < o.n → 0 ≤ o.bg i ∧ o.bg i < C
  be : ∀ i, i < o.n → o.bg i < o.en i
  real : ∀ a b, a < o.n → b < o.n → o.en b < o.bg a → σ b ≤ σ a ∧ (o.wr a = true → σ b < σ a)
  same : ∀ a b, a < o.n → b < o.n → o.fr a = o.fr b → o.bg a < o.bg b → o.en a < o.bg b
  one : ∀ a b, a < o.n → b < o.n → o.fr a = o.fr b → o.bg a = o.bg b → a = b
  uq : ∀ a b, a < o.n → b < o.n → o.wr a = true → o.wr b = true → σ a = σ b → a = b
  w0 : ∀ a, a < o.n → o.wr a = true → 0 < σ a
  rd : ∀ r, r < o.n → o.wr r = false → (σ r = 0 ∧ o.vl r = 0) ∨ ∃ w, w < o.n ∧ o.wr w = true ∧ σ w = σ r ∧ o.vl w = o.vl r
section
variable {o : Opl} {σ : Nat → Nat} {C : Nat}
theorem key_le (h : Stamped o σ C) {a b : Nat} (ha : a < o.n) (hb : b < o.n) (hk : keyO o σ C a ≤ keyO o σ C b) : σ a ≤ σ b ∧ (σ a = σ b → (o.wr a = true ∨ (o.wr b = false ∧ o.bg a ≤ o.bg b))) := by
  have h1 := h.bg a ha
  have h2 := h.bg b hb
  unfold keyO at hk
  have hC : (o.bg b).toNat < C := by omega
  have h3 : 2 * σ a + (if o.wr a then 0 else 1) ≤ 2 * σ b + (if o.wr b then 0 else 1) := by
    rcases Nat.lt_or_ge (2 * σ b + (if o.wr b then 0 else 1)) (2 * σ a + (if o.wr a then 0 else 1)) with hx | hx
    · exfalso
      have := Nat.mul_le_mul_right C (show 2 * σ b + (if o.wr b then 0 else 1) + 1 ≤ _ from hx)
      rw [Nat.add_mul (2 * σ b + (if o.wr b then 0 else 1)) 1 C, Nat.one_mul] at this
      omega
    · exact hx
  refine ⟨by cases hwa : o.wr a <;> cases hwb : o.wr b <;> simp [hwa, hwb] at h3 <;> omega, fun he => ?_⟩
  cases hwa : o.wr a
  · right
    cases hwb : o.wr b
    · refine ⟨rfl, ?_⟩
      rw [hwa, hwb, he] at hk
      omega
    · simp [hwa, hwb] at h3; omega
  · exact .inl rfl
theorem key_w (h : Stamped o σ C) {w r : Nat} (hw : w < o.n) (hr : r < o.n) (hww : o.wr w = true) (hwr : o.wr r = false) (he : σ w ≤ σ r) : keyO o σ C w < keyO o σ C r := by
  have h1 := h.bg w hw
  unfold keyO
  rw [hww, hwr]
  have := Nat.mul_le_mul_right C (show 2 * σ w + 1 ≤ 2 * σ r + 1 by omega)
  rw [Nat.add_mul (2 * σ w) 1 C, Nat.one_mul] at this
  simp only [if_true, Bool.false_eq_true, if_false, Nat.add_zero]
  omega
theorem line_irr (h : Stamped o σ C) : ∀ i, i < o.n → lineB o i i = false := fun i hi => by
  have := h.be i hi
  unfold lineB
  simp; omega
theorem key_line (h : Stamped o σ C) {a b : Nat} (ha : a < o.n) (hb : b < o.n) (hk : keyO o σ C a ≤ keyO o σ C b) : lineB o b a = false := by
  have hen : ¬ o.en b < o.bg a := by
    intro hlt
    have h1 := h.real a b ha hb hlt
    have h2 := key_le h ha hb hk
    have he : σ a = σ b := by omega
    rcases h2.2 he with h3 | ⟨_, h4⟩
    · have := h1.2 h3; omega
    · have := h.be b hb; omega
  unfold lineB
  rw [decide_eq_false hen, Bool.false_or, Bool.and_eq_false_iff]
  by_cases hf : o.fr b = o.fr a
  · right
    exact decide_eq_false fun hlt => hen (h.same b a hb ha hf hlt)
  · left; simpa using hf
/-- The last write of some. -/
def lastW (o : Opl) : Int → List Nat → Int
  | last, [] => last
  | last, i :: l => lastW o (nextL o last i) l
theorem lastW_snoc (o : Opl) (i : Nat) : ∀ (l : List Nat) (last : Int), lastW o last (l ++ [i]) = nextL o (lastW o last l) i
  | [], _ => rfl
  | j :: l, last => lastW_snoc o i l (nextL o last j)
theorem lastW_is (o : Opl) : ∀ (l : List Nat) (last : Int), (lastW o last l = last ∧ ∀ i ∈ l, o.wr i = false) ∨ ∃ p i q, l = p ++ i :: q ∧ o.wr i = true ∧ lastW o last l = (i : Int) ∧ ∀ j ∈ q, o.wr j = false
  | [], last => .inl ⟨rfl, fun i hi => by cases hi⟩
  | i :: l, last => by
    show (lastW o (nextL o last i) l = last ∧ _) ∨ ∃ p j q, i :: l = _ ∧ _ ∧ lastW o (nextL o last i) l = _ ∧ _
    rcases lastW_is o l (nextL o last i) with ⟨h1, h2⟩ | ⟨p, j, q, h1, h2, h3, h4⟩
    · cases hw : o.wr i
      · left
        refine ⟨by rw [h1]; unfold nextL; rw [hw]; rfl, fun j hj => ?_⟩
        rcases List.mem_cons.1 hj with rfl | hj
        · exact hw
        · exact h2 j hj
      · right
        exact ⟨[], i, l, rfl, hw, by rw [h1]; unfold nextL; rw [hw]; rfl, h2⟩
    · right
      exact ⟨i :: p, j, q, by rw [h1]; rfl, h2, h3, h4⟩
theorem leg_sorted (h : Stamped o σ C) : ∀ (R P : List Nat), (P ++ R).Pairwise (fun a b => keyO o σ C a ≤ keyO o σ C b) → (∀ i, i ∈ P ++ R ↔ i < o.n) → Leg o (lastW o (-1) P) R
  | [], _, _, _ => trivial
  | r :: R, P, hs, hm => by
    refine ⟨?_, ?_⟩
    · cases hw : o.wr r
      · right
        have hrn : r < o.n := (hm r).1 (by simp)
        have hpre : ∀ i ∈ P, keyO o σ C i ≤ keyO o σ C r := fun i hi => (List.pairwise_append.1 hs).2.2 i hi r (by simp)
        have hpost : ∀ i ∈ R, keyO o σ C r ≤ keyO o σ C i := fun i hi => (List.pairwise_cons.1 (List.pairwise_append.1 hs).2.1).1 i hi
        rcases h.rd r hrn hw with ⟨h0, hv⟩ | ⟨w, hwn, hww, hwe, hwv⟩
        · rcases lastW_is o P (-1) with ⟨e, _⟩ | ⟨p, i, q, e1, e2, _, _⟩
          · rw [e, hv]; rfl
          · exfalso
            have hi : i ∈ P := by rw [e1]; simp
            have hin : i < o.n := (hm i).1 (by simp [hi])
            have := (key_le h hin hrn (hpre i hi)).1
            have := h.w0 i hin e2
            omega
        · have hlt := key_w h hwn hrn hww hw (by omega)
          have hwP : w ∈ P := by
            have := (hm w).2 hwn
            rcases List.mem_append.1 this with h1 | h1
            · exact h1
            · rcases List.mem_cons.1 h1 with rfl | h1
              · rw [hww] at hw; cases hw
              · have := hpost w h1; omega
          rcases lastW_is o P (-1) with ⟨_, e⟩ | ⟨p, i, q, e1, e2, e3, e4⟩
          · have := e w hwP; rw [hww] at this; cases this
          · have hi : i ∈ P := by rw [e1]; simp
            have hin : i < o.n := (hm i).1 (by simp [hi])
            have hwi : keyO o σ C w ≤ keyO o σ C i := by
              rw [e1] at hwP
              rcases List.mem_append.1 hwP with h1 | h1
              · have hs1 := (List.pairwise_append.1 hs).1
                rw [e1] at hs1
                exact (List.pairwise_append.1 hs1).2.2 w h1 i (by simp)
              · rcases List.mem_cons.1 h1 with rfl | h1
                · exact Nat.le_refl _
                · have := e4 w h1; rw [hww] at this; cases this
            have a1 := (key_le h hwn hin hwi).1
            have a2 := (key_le h hin hrn (hpre i hi)).1
            have : i = w := h.uq i w hin hwn e2 hww (by omega)
            rw [e3, this, ← hwv]
            unfold nowV
            rw [if_pos (by omega)]; rfl
      · exact .inl rfl
    · have := leg_sorted h R (P ++ [r]) (by simpa using hs) (by simpa using hm)
      rw [lastW_snoc] at this
      exact this
theorem stamped_fin (h : Stamped o σ C) : Fin o (lineB o) 0 (-1) := by
  have hp := List.mergeSort_perm (List.range o.n) (fun a b => decide (keyO o σ C a ≤ keyO o σ C b))
  have hs := List.pairwise_mergeSort (le := fun a b => decide (keyO o σ C a ≤ keyO o σ C b)) (fun a b c h1 h2 => by simp at h1 h2 ⊢; omega) (fun a b => by simp; omega) (List.range o.n)
  generalize (List.range o.n).mergeSort (fun a b => decide (keyO o σ C a ≤ keyO o σ C b)) = l at hp hs
  have hs2 : l.Pairwise (fun a b => keyO o σ C a ≤ keyO o σ C b) := hs.imp (fun h => of_decide_eq_true h)
  have hm : ∀ i, i ∈ l ↔ i < o.n := fun i => by rw [hp.mem_iff]; simp
  refine ⟨l, ord_run (line_irr h) (Nat.two_pow_pos _) ⟨?_, fun i => by rw [hm]; simp, ?_, ?_⟩⟩
  · exact hp.nodup_iff.2 List.nodup_range
  · exact List.Pairwise.imp_of_mem (fun {a b} ha hb hk => key_line h ((hm a).1 ha) ((hm b).1 hb) hk) hs2
  · exact leg_sorted h l [] (by simpa using hs2) (by simpa using hm)
end
end Go.Proofs.Ytoakgoigamigjaa
