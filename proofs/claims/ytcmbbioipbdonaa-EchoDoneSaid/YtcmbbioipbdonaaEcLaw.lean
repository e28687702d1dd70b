/- What the laws of echo ask: plain. -/
import Derived.Test.YtcmbbioipbdonaaEc7
import Derived.Test.YtcmbbioipbdonaaPairs
set_option linter.unusedVariables false
set_option linter.unusedSimpArgs false
namespace Go.Proofs.Ytcmbbioipbdonaa
open Go.RowKit

section
variable {n st m : Nat} {S : ES} {rc : Nat → Nat → Bool} {dep : Nat → Nat} {p q : Nat → Nat}
theorem EI.heard (h : EI n st S rc dep) {a : Nat} (ha : a < n) (hh : S.frm a ≠ -1) : a = st ∨ ∃ b, b < n ∧ S.frm a = (b : Nat) ∧ b ∈ S.near a ∧ rc a b = true ∧ S.frm b ≠ -1 ∧ dep a = dep b + 1 := by
  by_cases h1 : a = st
  · exact .inl h1
  · rcases h.fr a ha h1 with h2 | ⟨b, h2, h3, h4, h5, h6⟩
    · exact absurd h2 hh
    · exact .inr ⟨b, (h.nb a b h3).2.1, h2, h3, h4, h5, h6⟩
theorem EI.low (h : EI n st S rc dep) {a : Nat} (ha : a < n) (hh : S.frm a ≠ -1) : dep a < n := by
  have h1 := h.dn a ha hh
  have h2 := sumN_le (g := hrd S) (c := 1) (n := n) fun j _ => by unfold hrd; split <;> omega
  omega
/-- Where a node waits for none all it is joined with have heard. -/
theorem EI.near_heard (h : EI n st S rc dep) {a b : Nat} (ha : a < n) (hw : S.wait a = 0) (hb : b ∈ S.near a) : Sent S b a := h.rs b a (h.all_rc ha hw hb)
/-- When it is done all that have heard wait for none. -/
theorem EI.done_all (h : EI n st S rc dep) (hd : S.wait st = 0) : ∀ d a, a < n → S.frm a ≠ -1 → dep a = d → S.wait a = 0
  | 0, a, ha, hh, he => by
    rcases h.heard ha hh with rfl | ⟨b, _, _, _, _, _, h6⟩
    · exact hd
    · omega
  | d + 1, a, ha, hh, he => by
    rcases h.heard ha hh with rfl | ⟨b, hb, h2, h3, h4, h5, h6⟩
    · exact hd
    · have h7 := EI.done_all h hd d b hb h5 (by omega)
      have h8 := h.near_heard hb h7 (h.nb a b h3).2.2.2
      exact h8.2.2 h2
/-- When nothing is on the way it is done. -/
theorem EI.quiet (h : EI n st S rc dep) (hq : S.way = []) : S.wait st = 0 := by
  have key : ∀ k a, a < n → S.frm a ≠ -1 → n ≤ dep a + k → S.wait a = 0 := by
    intro k
    induction k with
    | zero => intro a ha hh hk; have := h.low ha hh; omega
    | succ k ih =>
      intro a ha hh hk
      have hz : (S.near a).countP (fun b => !rc a b) = 0 := by
        refine List.countP_eq_zero.2 fun b hb => ?_
        obtain ⟨_, hbn, hab, hba⟩ := h.nb a b hb
        have hall : ∀ x y, Sent S x y → rc y x = true := fun x y hs => by
          cases hr : rc y x
          · have := (h.wm x y).2 ⟨hs, hr⟩
            rw [hq] at this; cases this
          · rfl
        have hsab : S.frm b ≠ -1 := by
          by_cases h1 : S.frm a = (b : Nat)
          · rcases h.heard ha hh with rfl | ⟨c, _, h2, _, _, h5, _⟩
            · have := h.fs; omega
            · have : b = c := by omega
              rw [this]; exact h5
          · have hs : Sent S a b := ⟨hb, hh, fun e => absurd e h1⟩
            have := hall a b hs
            intro h2
            have := h.un b h2 a
            simp_all
        have hsb : Sent S b a := by
          refine ⟨hba, hsab, fun e => ?_⟩
          rcases h.heard hbn hsab with rfl | ⟨c, _, h2, _, _, _, h6⟩
          · have := h.fs; omega
          · have hca : a = c := by omega
            exact ih b hbn hsab (by rw [h6, ← hca]; omega)
        have := hall b a hsb
        simp [this]
      have := h.wt a ha
      omega
  exact key n st h.hst (by rw [h.fs]; decide) (by omega)
/-- No more was sent than twice the links. -/
theorem EI.few (h : EI n st S rc dep) : S.sent ≤ sumN n fun a => (S.near a).length := by
  rw [h.snt]
  refine sumN_mono fun a ha => ?_
  unfold outN
  split
  · omega
  · split
    · exact Nat.le_refl _
    · rename_i h1 h2
      rcases h.heard ha h1 with rfl | ⟨b, _, _, h3, _⟩
      · exact absurd h.fs h2
      · have := List.length_pos_of_mem h3
        split <;> omega
theorem deg_sum (hlk : ∀ j, j < m → p j < n ∧ q j < n ∧ p j ≠ q j) (f : Nat → Bool) : ∀ k, k ≤ m → sumN n (fun a => if f a then (nearK p q k a).length else 0) = sumN k fun j => (if f (p j) then 1 else 0) + (if f (q j) then 1 else 0)
  | 0, _ => by
    have : ∀ n, sumN n (fun a => if f a then (nearK p q 0 a).length else 0) = 0 := fun n => by
      have := sumN_le (g := fun a => if f a then (nearK p q 0 a).length else 0) (c := 0) (n := n) fun j _ => by show (if f j = true then ([] : List Nat).length else 0) ≤ 0; split <;> simp
      omega
    exact this n
  | k + 1, hk => by
    have ih := deg_sum hlk f k (by omega)
    obtain ⟨hp, hq, hpq⟩ := hlk k (by omega)
    let g1 : Nat → Nat := fun a => if f a then (nearK p q k a).length else 0
    let g2 : Nat → Nat := fun a => if f a then (if a = p k then (nearK p q k a).length + 1 else (nearK p q k a).length) else 0
    let g3 : Nat → Nat := fun a => if f a then (nearK p q (k + 1) a).length else 0
    have hlen : ∀ a, (nearK p q (k + 1) a).length = if a = p k then (nearK p q k a).length + 1 else if a = q k then (nearK p q k a).length + 1 else (nearK p q k a).length := fun a => by
      rw [nearK_succ]
      split
      · simp
      · split <;> simp
    have a1 := sumN_put (g := g1) (h := g2) hp fun j _ hne => by show (if f j then (if j = p k then _ else _) else 0) = if f j then _ else 0; rw [if_neg hne]
    have a2 := sumN_put (g := g2) (h := g3) hq fun j _ hne => by
      show (if f j then (nearK p q (k + 1) j).length else 0) = if f j then (if j = p k then _ else _) else 0
      rw [hlen j, if_neg hne]
    have b1 : g2 (p k) = g1 (p k) + if f (p k) then 1 else 0 := by
      show (if f (p k) then (if p k = p k then (nearK p q k (p k)).length + 1 else _) else 0) = (if f (p k) then (nearK p q k (p k)).length else 0) + _
      rw [if_pos rfl]; split <;> rfl
    have b2 : g3 (q k) = g2 (q k) + if f (q k) then 1 else 0 := by
      show (if f (q k) then (nearK p q (k + 1) (q k)).length else 0) = (if f (q k) then (if q k = p k then _ else (nearK p q k (q k)).length) else 0) + _
      have hne : ¬ q k = p k := fun e => hpq e.symm
      rw [hlen, if_neg hne, if_neg hne, if_pos rfl]; split <;> rfl
    have ih' : sumN n g1 = sumN k fun j => (if f (p j) then 1 else 0) + (if f (q j) then 1 else 0) := ih
    have hs : sumN (k + 1) (fun j => (if f (p j) then 1 else 0) + (if f (q j) then 1 else 0)) = sumN k (fun j => (if f (p j) then 1 else 0) + (if f (q j) then 1 else 0)) + ((if f (p k) then 1 else 0) + (if f (q k) then 1 else 0)) := rfl
    show sumN n g3 = _
    rw [hs, ← ih']
    generalize (if f (p k) then 1 else 0 : Nat) = u at *
    generalize (if f (q k) then 1 else 0 : Nat) = v at *
    omega
end
/-- The arguments in whole numbers. -/
theorem lk_nat {n st : Int} {m mo : Nat} {p q : Nat → Int} (h : LkOk n m p q st mo) : ∃ (n' st' : Nat) (p' q' : Nat → Nat), n = n' ∧ st = st' ∧ LkP n' m p' q' ∧ (∀ j, j < m → p j = (p' j : Nat) ∧ q j = (q' j : Nat)) ∧ 1 ≤ n' ∧ st' < n' ∧ mo ≤ 60 := by
  obtain ⟨⟨⟨h1, h2, h3⟩, h4⟩, h5, ⟨h6, h7⟩, h8⟩ := h
  refine ⟨n.toNat, st.toNat, fun j => (p j).toNat, fun j => (q j).toNat, by omega, by omega, ⟨by omega, h3, fun j hj => ?_, fun i hi j hj hs => h5 i hi j hj ?_⟩, fun j hj => ?_, by omega, by omega, h8⟩
  · have := h4 j hj
    unfold Rg at this
    show (p j).toNat < _ ∧ (q j).toNat < _ ∧ (p j).toNat ≠ (q j).toNat
    omega
  · have a := h4 i hi
    have b := h4 j (by omega)
    unfold Rg at a b
    have hs : (p i).toNat = (p j).toNat ∧ (q i).toNat = (q j).toNat ∨ (p i).toNat = (q j).toNat ∧ (q i).toNat = (p j).toNat := hs
    unfold Sm
    omega
  · have := h4 j hj
    unfold Rg at this
    show p j = ((p j).toNat : Nat) ∧ q j = ((q j).toNat : Nat)
    omega
theorem rd_nat {w : World} {B m : Nat} {A : Option Addr} {p q : Nat → Int} {p' q' : Nat → Nat} (hr : Rd w B A (m * 2) (recF2 p q)) (h : ∀ j, j < m → p j = (p' j : Nat) ∧ q j = (q' j : Nat)) : Rd w B A (m * 2) (recF2 (fun i => (p' i : Nat)) (fun i => (q' i : Nat))) := by
  intro hn
  obtain ⟨ad, h1, h2, h3⟩ := hr hn
  refine ⟨ad, h1, h2, fun t ht => ?_⟩
  rw [h3 t ht]
  have := h (t / 2) (by omega)
  unfold recF2
  simp only [this.1, this.2]
/-- Do two stand in a link? -/
def lkHas (p q : Nat → Nat) (i f : Nat) : Nat → Bool
  | 0 => false
  | t + 1 => (lkHas p q i f t || (p t == i && q t == f)) || (q t == i && p t == f)
theorem lkHas_of {p q : Nat → Nat} {i f : Nat} : ∀ {m k : Nat}, k < m → (p k = i ∧ q k = f ∨ q k = i ∧ p k = f) → lkHas p q i f m = true
  | 0, k, hk, _ => by omega
  | m + 1, k, hk, h => by
    simp only [lkHas, Bool.or_eq_true, Bool.and_eq_true, beq_iff_eq]
    rcases Nat.lt_succ_iff_lt_or_eq.1 hk with hl | rfl
    · exact .inl (.inl (lkHas_of hl h))
    · rcases h with h | h
      · exact .inl (.inr h)
      · exact .inr h
theorem lkHas_near {n m : Nat} {p q : Nat → Nat} {a b : Nat} (h : b ∈ nearS p q m a) : lkHas p q a b m = true := by
  obtain ⟨k, hk, h1⟩ := nearS_link.1 h
  refine lkHas_of hk ?_
  rcases h1 with ⟨h1, h2⟩ | ⟨_, h1, h2⟩
  · exact .inl ⟨h1, h2⟩
  · exact .inr ⟨h1, h2⟩
/-- What EchoTree reads of who heard from whom. -/
structure TreeI (n st m : Nat) (p q : Nat → Nat) (F : Nat → Int) (Hd : Nat → Prop) (dep : Nat → Nat) : Prop where
  s : F st = -1
  at_ : ∀ i, i < n → F i = -1 ∨ Hd i ∧ ∃ f : Nat, F i = (f : Nat) ∧ f < n ∧ lkHas p q i f m = true
  up : ∀ a, a < n → Hd a → a = st ∨ ∃ b : Nat, b < n ∧ F a = (b : Nat) ∧ Hd b ∧ dep a = dep b + 1
  lt : ∀ a, a < n → Hd a → dep a < n
theorem EI.tree {n st m : Nat} {S : ES} {rc : Nat → Nat → Bool} {dep : Nat → Nat} {p q : Nat → Nat} (h : EI n st S rc dep) (hN : S.near = nearS p q m) : TreeI n st m p q (upd S.frm st (-1)) (fun a => S.frm a ≠ -1) dep := by
  refine ⟨upd_same _ _ _, fun i hi => ?_, fun a ha hh => ?_, fun a ha hh => h.low ha hh⟩
  · by_cases h1 : i = st
    · subst h1; exact .inl (upd_same _ _ _)
    · rw [upd_ne _ _ h1]
      by_cases h2 : S.frm i = -1
      · exact .inl h2
      · rcases h.heard hi h2 with h3 | ⟨b, h3, h4, h5, _⟩
        · exact absurd h3 h1
        · rw [hN] at h5
          exact .inr ⟨h2, b, h4, h3, lkHas_near (n := n) h5⟩
  · rcases h.heard ha hh with h1 | ⟨b, h3, h4, h5, h6, h7, h8⟩
    · exact .inl h1
    · by_cases h1 : a = st
      · exact .inl h1
      · exact .inr ⟨b, h3, by rw [upd_ne _ _ h1]; exact h4, h7, h8⟩
theorem lkOk_nat {n st m mo : Nat} {p q : Nat → Nat} (hlk : LkP n m p q) (h1 : 1 ≤ n) (hst : st < n) (hmo : mo ≤ 60) : LkOk (n : Nat) m (fun i => (p i : Nat)) (fun i => (q i : Nat)) (st : Nat) mo := by
  have h6 := hlk.h6
  have hm15 := hlk.hm
  refine ⟨⟨⟨by omega, by omega, hm15⟩, fun j hj => ?_⟩, fun i hi j hj hs => hlk.one i hi j hj ?_, ⟨by omega, by omega⟩, hmo⟩
  · have := hlk.at_ j hj
    show 0 ≤ ((p j : Nat) : Int) ∧ ((p j : Nat) : Int) < (n : Nat) ∧ 0 ≤ ((q j : Nat) : Int) ∧ ((q j : Nat) : Int) < (n : Nat) ∧ ((p j : Nat) : Int) ≠ ((q j : Nat) : Int)
    omega
  · have hs : ((p i : Nat) : Int) = (p j : Nat) ∧ ((q i : Nat) : Int) = (q j : Nat) ∨ ((p i : Nat) : Int) = (q j : Nat) ∧ ((q i : Nat) : Int) = (p j : Nat) := hs
    omega
end Go.Proofs.Ytcmbbioipbdonaa
