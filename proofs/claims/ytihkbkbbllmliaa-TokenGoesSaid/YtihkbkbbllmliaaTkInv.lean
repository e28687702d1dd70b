/- token: what every state keeps (for the walk, and for TokenOne). -/
import Derived.Test.YtihkbkbbllmliaaTk5
set_option linter.unusedVariables false
set_option linter.unusedSimpArgs false
namespace Go.Proofs.Ytihkbkbbllmliaa

structure KJ (n k l : Nat) (s : KS) : Prop where
  pt : ∀ i, i < n → s.pt i < n
  row : ∀ i x, x ∈ s.row i → x < n
  rl : ∀ i, (s.row i).length ≤ l
  sh : ShortK k s
  one : ∀ i, (s.row i).count i ≤ 1
  out : ∀ i : Nat, s.inn = i → i ∉ s.row i
  inn : s.inn = -1 ∨ ∃ i : Nat, i < n ∧ s.inn = i
theorem KJ.mono {n k l k' l' : Nat} {s : KS} (h : KJ n k l s) (hk : k ≤ k') (hl : l ≤ l') : KJ n k' l' s :=
  ⟨h.pt, h.row, fun i => Nat.le_trans (h.rl i) hl, h.sh.mono hk, h.one, h.out, h.inn⟩
theorem KJ.send {n k l a b : Nat} {x : Bool} {s : KS} (h : KJ n k l s) : KJ n (k + 1) l (sendK a b x s) :=
  ⟨h.pt, h.row, h.rl, h.sh.send, h.one, h.out, h.inn⟩
theorem KJ.cut {n k l i to : Nat} {r : List Nat} {s : KS} (h : KJ n k l s) (hw : s.row i = to :: r) : KJ n k l { s with row := upd s.row i r } := by
  refine ⟨h.pt, fun j x hx => ?_, fun j => ?_, ShortK.row h.sh, fun j => ?_, fun j hj hm => ?_, h.inn⟩
  · change x ∈ upd s.row i r j at hx
    rw [upd_apply] at hx
    split at hx
    · exact h.row i x (by rw [hw]; exact List.mem_cons_of_mem _ hx)
    · exact h.row j x hx
  · show (upd s.row i r j).length ≤ l
    rw [upd_apply]; split
    · have := h.rl i; rw [hw] at this; simp at this; omega
    · exact h.rl j
  · show (upd s.row i r j).count j ≤ 1
    rw [upd_apply]; split
    · rename_i e; subst e
      have := h.one j; rw [hw] at this
      exact Nat.le_trans (List.Sublist.count_le _ (List.sublist_cons_self _ _)) this
    · exact h.one j
  · change j ∈ upd s.row i r j at hm
    rw [upd_apply] at hm
    split at hm
    · rename_i e; subst e
      exact h.out j hj (by rw [hw]; exact List.mem_cons_of_mem _ hm)
    · exact h.out j hj hm
theorem KJ.pass {n k l i to : Nat} {r : List Nat} {s : KS} (h : KJ n k l s) (hw : s.row i = to :: r) : KJ n (k + 1) l (passK i to r s) := by
  have h1 := h.cut hw
  have ht : to < n := h.row i to (by rw [hw]; exact List.mem_cons_self)
  refine KJ.send ⟨fun j hj => ?_, h1.row, h1.rl, h1.sh, h1.one, h1.out, h1.inn⟩
  show upd s.pt i to j < n
  rw [upd_apply]; split
  · exact ht
  · exact h.pt j hj
theorem KJ.give {n k l i : Nat} {s : KS} (hi : i < n) (h : KJ n k l s) : KJ n (k + 2) l (giveK i s) := by
  unfold giveK
  split
  · exact h.mono (by omega) (Nat.le_refl _)
  · split
    · exact h.mono (by omega) (Nat.le_refl _)
    · rename_i to r hw
      split
      · rename_i e; subst e
        have h1 := h.cut hw
        refine KJ.mono (k := k) (l := l) ⟨h1.pt, h1.row, h1.rl, h1.sh, h1.one, fun j hj hm => ?_, .inr ⟨to, hi, rfl⟩⟩ (by omega) (Nat.le_refl _)
        have hj : (to : Int) = j := hj
        obtain rfl : to = j := by omega
        change to ∈ upd s.row to r to at hm
        rw [upd_same] at hm
        have := h.one to
        rw [hw, List.count_cons_self] at this
        have := List.count_pos_iff.2 hm
        omega
      · split
        · exact (h.pass hw).mono (by omega) (Nat.le_refl _)
        · exact (h.pass hw).send
theorem KJ.ask {n k l i : Nat} {s : KS} (h : KJ n k l s) : KJ n (k + 1) l (askK i s) := by
  unfold askK
  split
  · exact h.send
  · exact h.mono (by omega) (Nat.le_refl _)
theorem KJ.add {n k l i who : Nat} {s : KS} (hw : who < n) (ho : who = i → s.inn ≠ i ∧ i ∉ s.row i) (h : KJ n k l s) : KJ n k (l + 1) (addK i who s) := by
  refine ⟨h.pt, fun j x hx => ?_, fun j => ?_, ShortK.row h.sh, fun j => ?_, fun j hj hm => ?_, h.inn⟩
  · change x ∈ upd s.row i _ j at hx
    rw [upd_apply] at hx
    split at hx
    · rcases List.mem_append.1 hx with hx | hx
      · exact h.row i x hx
      · rw [List.mem_singleton.1 hx]; exact hw
    · exact h.row j x hx
  · show (upd s.row i _ j).length ≤ l + 1
    rw [upd_apply]; split
    · have := h.rl i; simp; omega
    · have := h.rl j; omega
  · show (upd s.row i _ j).count j ≤ 1
    rw [upd_apply]; split
    · rename_i e; subst e
      rw [List.count_append]
      by_cases hwj : who = j
      · subst hwj
        have := (ho rfl).2
        rw [List.count_eq_zero.2 this]; simp
      · have := h.one j
        rw [List.count_eq_zero.2 (show j ∉ [who] by simp; omega)]
        omega
    · exact h.one j
  · change j ∈ upd s.row i _ j at hm
    rw [upd_apply] at hm
    split at hm
    · rename_i e; subst e
      rcases List.mem_append.1 hm with hm | hm
      · exact h.out j hj hm
      · rw [List.mem_singleton] at hm
        exact (ho hm.symm).1 hj
    · exact h.out j hj hm
theorem KJ.stand {n k l i who : Nat} {s : KS} (hi : i < n) (hw : who < n) (ho : who = i → s.inn ≠ i ∧ i ∉ s.row i) (h : KJ n k l s) : KJ n (k + 3) (l + 1) (standK i who s) := ((h.add hw ho).ask).give hi
theorem KJ.popd {n k l f t : Nat} {x : Bool} {r : List Bool} {s : KS} (h : KJ n k l s) (hw : s.way (f, t) = x :: r) : KJ n k l (popK f t r s) :=
  ⟨h.pt, h.row, h.rl, h.sh.pop hw, h.one, h.out, h.inn⟩
theorem KJ.step {n j : Nat} {k f t : Int} {s : KS} (h : KJ n (3 * j) j s) : KJ n (3 * (j + 1)) (j + 1) (tkStep n k f t s).2 := by
  have h0 : KJ n (3 * (j + 1)) (j + 1) s := h.mono (by omega) (by omega)
  unfold tkStep
  split
  · exact h0
  split
  · exact h0
  rename_i hk hb
  have hf : 0 ≤ f ∧ f < n := by
    simp only [tkBad, Bool.or_eq_true, not_or, Bool.not_eq_true, Bool.not_eq_false', Bool.and_eq_true, decide_eq_true_eq] at hb
    exact hb.1
  split
  · rename_i hk2
    subst hk2
    have ht : (0 ≤ t ∧ t < n) ∧ f ≠ t := by
      simp [tkBad] at hb
      omega
    have hff : f.toNat < n := by omega
    have htt : t.toNat < n := by omega
    have hne : f.toNat ≠ t.toNat := by omega
    unfold comeK
    split
    · exact h0
    · rename_i x r hw
      have h1 := h.popd hw
      show KJ n (3 * (j + 1)) (j + 1) (if x = true then _ else _)
      split
      · refine KJ.mono (KJ.give htt (k := 3 * j) (l := j) ⟨fun i hi => ?_, h1.row, h1.rl, ShortK.row h1.sh, h1.one, h1.out, h1.inn⟩) (by omega) (by omega)
        show upd s.pt t.toNat t.toNat i < n
        rw [upd_apply]; split
        · exact htt
        · exact h.pt i hi
      · exact (h1.stand htt hff (fun e => absurd e hne)).mono (by omega) (by omega)
  split
  · split
    · exact h0
    · rename_i hin
      refine (h.stand (i := f.toNat) (who := f.toNat) (by omega) (by omega) (fun _ => ⟨fun e => hin (.inl ?_), fun e => hin (.inr e)⟩)).mono (by omega) (by omega)
      omega
  split
  · exact h0
  · refine KJ.mono (KJ.give (by omega) (k := 3 * j) (l := j) ⟨h.pt, h.row, h.rl, ShortK.row h.sh, h.one, fun i hi => ?_, .inl rfl⟩) (by omega) (by omega)
    have hi : (-1 : Int) = i := hi
    omega
theorem tkE_J {n r : Nat} {v : Nat → Nat} (hv : ∀ i, i < n → v i < n) (M : Mv) : ∀ j, KJ n (3 * j) j (tkE n v r M j)
  | 0 => ⟨hv, fun i x h => by simp [tkE, KS0] at h, fun i => Nat.le_refl _, fun p => Nat.le_refl _, fun i => by simp [tkE, KS0], fun i _ h => by simp [tkE, KS0] at h, .inl rfl⟩
  | j + 1 => (tkE_J hv M j).step
theorem KJ.bk {n k l : Nat} {s : KS} (h : KJ n k l s) (hk : k ≤ 900) (hl : l ≤ 900) : BK n s := ⟨h.sh.mono hk, h.pt, h.row, fun i => Nat.le_trans (h.rl i) hl⟩
end Go.Proofs.Ytihkbkbbllmliaa
