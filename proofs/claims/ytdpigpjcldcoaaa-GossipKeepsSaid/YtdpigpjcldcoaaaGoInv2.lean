/- What holds behind every script: in plain functions. -/
import Derived.Test.YtdpigpjcldcoaaaGoInv
set_option linter.unusedVariables false
set_option linter.unusedSimpArgs false
namespace Go.Proofs.Ytdpigpjcldcoaaa
open Go.RowKit

structure GI (n : Nat) (s : GS) (W : List Kn) (c : Nat) : Prop where
  len : W.length ≤ c
  sub : ∀ i, i < n → ∀ x ∈ s.known i, x ∈ W
  anti : ∀ i, i < n → Anti n (s.known i)
  le : ∀ x ∈ W, Le n x.vec s.wrote
  val : OneVal n W
  wr : ∀ i, i < n → s.wrote i ≤ c
theorem GI.short {n : Nat} {s : GS} {W : List Kn} {c : Nat} (h : GI n s W c) {i : Nat} (hi : i < n) : (s.known i).length ≤ c :=
  Nat.le_trans ((h.anti i hi).nodup.length_le_of_subset (h.sub i hi)) h.len
theorem GI.start (n : Nat) : GI n GS0 [] 0 := ⟨Nat.le_refl _, fun _ _ x hx => absurd hx List.not_mem_nil, fun _ _ => .nil, fun x hx => absurd hx List.not_mem_nil, fun x hx => absurd hx List.not_mem_nil, fun _ _ => Nat.le_refl _⟩
theorem GI.more {n : Nat} {s : GS} {W : List Kn} {c : Nat} (h : GI n s W c) : GI n s W (c + 1) := ⟨Nat.le_succ_of_le h.len, h.sub, h.anti, h.le, h.val, fun i hi => Nat.le_succ_of_le (h.wr i hi)⟩
theorem GI.tell {n : Nat} {s : GS} {W : List Kn} {c : Nat} (h : GI n s W c) {f t : Nat} (hf : f < n) (ht : t < n) : GI n (tellS n f t s) W c := by
  refine ⟨h.len, fun i hi x hx => ?_, fun i hi => ?_, h.le, h.val, h.wr⟩
  · have hx : x ∈ upd s.known t (tellL n (s.known t) (s.known f)) i := hx
    by_cases e : i = t
    · subst e
      rw [upd_same] at hx
      rcases (tellL_mem hx).1 with h1 | h1
      · exact h.sub i hi x h1
      · exact h.sub f hf x h1
    · rw [upd_ne _ _ e] at hx; exact h.sub i hi x hx
  · show Anti n (upd s.known t (tellL n (s.known t) (s.known f)) i)
    by_cases e : i = t
    · subst e; rw [upd_same]; exact tellL_anti n _ _
    · rw [upd_ne _ _ e]; exact h.anti i hi
theorem maxT_ge (l : List Kn) (j : Nat) : ∀ k i, i < k → (knAt l i).vec j ≤ maxT l k j
  | 0, i, h => absurd h (by omega)
  | k + 1, i, h => by
    have ih := maxT_ge l j k
    show _ ≤ max (maxT l k j) ((knAt l k).vec j)
    rcases Nat.lt_succ_iff_lt_or_eq.1 h with h1 | rfl
    · have := ih i h1; omega
    · omega
theorem maxT_le (l : List Kn) (j b : Nat) (hb : ∀ x ∈ l, x.vec j ≤ b) : ∀ k, k ≤ l.length → maxT l k j ≤ b
  | 0, _ => Nat.zero_le _
  | k + 1, h => by
    have ih := maxT_le l j b hb k (by omega)
    have := hb _ (knAt_in (show k < l.length by omega))
    show max (maxT l k j) ((knAt l k).vec j) ≤ b
    omega
def newK (s : GS) (i : Nat) (v : Int) : Kn := ⟨v, fun j => if j = i then s.wrote i + 1 else maxV (s.known i) j⟩
theorem newK_lt {n : Nat} {s : GS} {W : List Kn} {c : Nat} (h : GI n s W c) {i : Nat} (hi : i < n) (v : Int) : ∀ x ∈ s.known i, Lt n x.vec (newK s i v).vec := by
  intro x hx
  have hw := h.le x (h.sub i hi x hx)
  refine ⟨fun t ht => ?_, i, hi, ?_⟩
  · show x.vec t ≤ if t = i then s.wrote i + 1 else maxV (s.known i) t
    split
    · rename_i e; subst e; have := hw t ht; omega
    · obtain ⟨k, hk, rfl⟩ := in_knAt hx
      exact maxT_ge _ _ _ _ hk
  · show x.vec i < if i = i then s.wrote i + 1 else maxV (s.known i) i
    rw [if_pos rfl]
    have := hw i hi; omega
theorem GI.write {n : Nat} {s : GS} {W : List Kn} {c : Nat} (h : GI n s W c) {i : Nat} (hi : i < n) (v : Int) : GI n (writeS i v s) (newK s i v :: W) (c + 1) := by
  have hself : (newK s i v).vec i = s.wrote i + 1 := if_pos rfl
  refine ⟨by simpa using h.len, fun k hk x hx => ?_, fun k hk => ?_, fun x hx t ht => ?_, ?_, fun k hk => ?_⟩
  · have hx : x ∈ upd s.known i [newK s i v] k := hx
    by_cases e : k = i
    · subst e; rw [upd_same] at hx
      rw [List.mem_singleton.1 hx]; exact List.mem_cons_self
    · rw [upd_ne _ _ e] at hx; exact List.mem_cons_of_mem _ (h.sub k hk x hx)
  · show Anti n (upd s.known i [newK s i v] k)
    by_cases e : k = i
    · subst e; rw [upd_same]; exact List.pairwise_singleton _ _
    · rw [upd_ne _ _ e]; exact h.anti k hk
  · show x.vec t ≤ upd s.wrote i (s.wrote i + 1) t
    rcases List.mem_cons.1 hx with rfl | h1
    · show (if t = i then s.wrote i + 1 else maxV (s.known i) t) ≤ upd s.wrote i (s.wrote i + 1) t
      by_cases e : t = i
      · subst e; rw [if_pos rfl, upd_same]; omega
      · rw [if_neg e, upd_ne _ _ e]
        exact maxT_le _ _ _ (fun y hy => h.le y (h.sub i hi y hy) t ht) _ (Nat.le_refl _)
    · have := h.le x h1 t ht
      by_cases e : t = i
      · subst e; rw [upd_same]; omega
      · rw [upd_ne _ _ e]; exact this
  · have key : ∀ y ∈ W, ¬ Eqv n (newK s i v).vec y.vec := fun y hy he => by
      have h1 := he i hi
      have h2 := h.le y hy i hi
      rw [hself] at h1
      omega
    intro x hx y hy he
    rcases List.mem_cons.1 hx with rfl | h1 <;> rcases List.mem_cons.1 hy with rfl | h2
    · rfl
    · exact absurd he (key y h2)
    · exact absurd he.symm (key x h1)
    · exact h.val x h1 y h2 he
  · show upd s.wrote i (s.wrote i + 1) k ≤ c + 1
    by_cases e : k = i
    · subst e; rw [upd_same]; have := h.wr k hk; omega
    · rw [upd_ne _ _ e]; have := h.wr k hk; omega
/-- One move, as it is. -/
inductive Dos (n : Nat) (k f t v : Int) (s : GS) : Int → GS → Prop where
  | no (c : Int) (hc : c ≠ 0) : Dos n k f t v s c s
  | tell (F T : Nat) (hF : F < n) (hT : T < n) (hk : k = 2) (ef : f = F) (et : t = T) : Dos n k f t v s 0 (tellS n F T s)
  | write (F : Nat) (hF : F < n) (hk : k = 1) (ef : f = F) (h0 : 0 ≤ v) (h1 : v ≤ 100) : Dos n k f t v s 0 (writeS F v s)
theorem inB_iff {n : Nat} {x : Int} : inB n x = true ↔ 0 ≤ x ∧ x < n := by simp [inB]
theorem doS_is (n : Nat) (k f t v : Int) (s : GS) : Dos n k f t v s (doS n k f t v s).1 (doS n k f t v s).2 := by
  unfold doS
  by_cases h1 : k ≠ 1 ∧ k ≠ 2
  · rw [if_pos h1]; exact .no 6 (by omega)
  rw [if_neg h1]
  by_cases h2 : inB n f = false ∨ (k = 2 ∧ inB n t = false)
  · rw [if_pos h2]; exact .no 2 (by omega)
  rw [if_neg h2]
  have hf : inB n f = true := by simpa using fun h => h2 (.inl h)
  obtain ⟨f0, f1⟩ := inB_iff.1 hf
  by_cases h3 : k = 2
  · rw [if_pos h3]
    have ht : inB n t = true := by simpa using fun h => h2 (.inr ⟨h3, h⟩)
    obtain ⟨t0, t1⟩ := inB_iff.1 ht
    exact .tell f.toNat t.toNat (by omega) (by omega) h3 (by omega) (by omega)
  rw [if_neg h3]
  by_cases h4 : v < 0 ∨ 100 < v
  · rw [if_pos h4]; exact .no 4 (by omega)
  · rw [if_neg h4]
    exact .write f.toNat (by omega) (by omega) (by omega) (by omega) (by omega)
theorem GI.step {n : Nat} {s : GS} {W : List Kn} {c : Nat} (h : GI n s W c) (k f t v : Int) : ∃ W', GI n (doS n k f t v s).2 W' (c + 1) := by
  have := doS_is n k f t v s
  generalize doS n k f t v s = r at this ⊢
  obtain ⟨r1, r2⟩ := r
  cases this with
  | no _ _ => exact ⟨W, h.more⟩
  | tell F T hF hT _ _ _ => exact ⟨W, (h.tell hF hT).more⟩
  | write F hF _ _ _ _ => exact ⟨_, h.write hF v⟩
theorem GI.all (n : Nat) (M : Mv) : ∀ j, ∃ W, GI n (goE n M j) W j
  | 0 => ⟨[], GI.start n⟩
  | j + 1 => by
    obtain ⟨W, h⟩ := GI.all n M j
    exact h.step (M.k j) (M.f j) (M.t j) (M.v j)
theorem GI.keeps {n : Nat} {s : GS} {W : List Kn} {c : Nat} (h : GI n s W c) (k f t v : Int) {i : Nat} (hi : i < n) : Keeps n (s.known i) ((doS n k f t v s).2.known i) := by
  have := doS_is n k f t v s
  generalize doS n k f t v s = r at this ⊢
  obtain ⟨r1, r2⟩ := r
  cases this with
  | no _ _ => exact Keeps.refl _ _
  | tell F T hF hT _ _ _ =>
    show Keeps n (s.known i) (upd s.known T (tellL n (s.known T) (s.known F)) i)
    by_cases e : i = T
    · subst e
      rw [upd_same]
      have hv : OneVal n (s.known i ++ s.known F) := fun x hx y hy => h.val x ((List.mem_append.1 hx).elim (h.sub i hi x) (h.sub F hF x)) y ((List.mem_append.1 hy).elim (h.sub i hi y) (h.sub F hF y))
      exact fun x hx => tellL_keeps hv x (List.mem_append.2 (.inl hx))
    · rw [upd_ne _ _ e]; exact Keeps.refl _ _
  | write F hF _ _ _ _ =>
    show Keeps n (s.known i) (upd s.known F [newK s F v] i)
    by_cases e : i = F
    · subst e
      rw [upd_same]
      exact fun x hx => ⟨_, List.mem_singleton.2 rfl, .inl (newK_lt h hi v x hx)⟩
    · rw [upd_ne _ _ e]; exact Keeps.refl _ _
theorem goE_keeps (n : Nat) (M : Mv) {i : Nat} (hi : i < n) (a : Nat) : ∀ d, Keeps n ((goE n M a).known i) ((goE n M (a + d)).known i)
  | 0 => Keeps.refl _ _
  | d + 1 => by
    obtain ⟨W, h⟩ := GI.all n M (a + d)
    exact (goE_keeps n M hi a d).trans (h.keeps (M.k (a + d)) (M.f (a + d)) (M.t (a + d)) (M.v (a + d)) hi)
end Go.Proofs.Ytdpigpjcldcoaaa
