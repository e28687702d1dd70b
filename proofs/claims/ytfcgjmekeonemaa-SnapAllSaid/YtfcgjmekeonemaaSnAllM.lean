/- What SnapAll asks of snap's states. -/
import Derived.Test.YtfcgjmekeonemaaSnLaw
set_option linter.unusedVariables false
set_option linter.unusedSimpArgs false
namespace Go.Proofs.Ytfcgjmekeonemaa
open Go.RowKit Go.Maps Go.MapKept

theorem recS_diag {n i : Nat} {s : SN} (h : ∀ a, s.way (a, a) = []) (a : Nat) : (recS n i s).way (a, a) = [] := by
  unfold recS
  split
  · exact h a
  · show marks i n s.way (a, a) = []
    rw [marks_at, if_neg (fun e => e.2.1 e.1)]
    exact h a
theorem sn_diag {n : Nat} {k f t v : Int} {s : SN} (h : ∀ a, s.way (a, a) = []) : ∀ a, (snStep n k f t v s).2.way (a, a) = [] := by
  unfold snStep
  split
  · exact h
  split
  · exact h
  rename_i hk hb
  obtain ⟨⟨hf1, hf2⟩, hb⟩ := snBad_of hb
  have hput : ∀ (l : List Int), k ≠ 3 → ∀ a, qput s.way (f.toNat, t.toNat) l (a, a) = [] := fun l h3 a => by
    obtain ⟨⟨ht1, ht2⟩, hft⟩ := hb h3
    rw [qput_ne (fun e => by
      have h1 := (Prod.mk.inj e).1
      have h2 := (Prod.mk.inj e).2
      omega)]
    exact h a
  split
  · unfold takeN
    split
    · exact h
    · rename_i x l _
      unfold takeT
      split
      · intro a
        exact recS_diag (s := { s with way := qput s.way (f.toNat, t.toNat) l }) (hput l (by omega)) a
      · exact hput l (by omega)
  split
  · split
    · exact h
    · exact recS_diag h
  split
  · exact h
  · exact hput _ (by omega)
theorem snE_diag (n : Nat) (M : Mv) : ∀ j a, (snE n M j).way (a, a) = []
  | 0, _ => rfl
  | j + 1, a => sn_diag (snE_diag n M j) a
theorem recS_kz {n i : Nat} {s : SN} (h : ∀ a, s.rec_ a = false → s.kept a = 0) : ∀ a, (recS n i s).rec_ a = false → (recS n i s).kept a = 0 := by
  unfold recS
  split
  · exact h
  · intro a ha
    replace ha : upd s.rec_ i true a = false := ha
    rw [upd_apply] at ha
    split at ha
    · cases ha
    · rename_i e
      show upd s.kept i _ a = 0
      rw [upd_ne _ _ e]
      exact h a ha
theorem sn_kz {n : Nat} {k f t v : Int} {s : SN} (h : ∀ a, s.rec_ a = false → s.kept a = 0) : ∀ a, (snStep n k f t v s).2.rec_ a = false → (snStep n k f t v s).2.kept a = 0 := by
  unfold snStep
  split
  · exact h
  split
  · exact h
  split
  · unfold takeN
    split
    · exact h
    · rename_i x l _
      unfold takeT
      split
      · exact recS_kz (s := { s with way := qput s.way (f.toNat, t.toNat) l }) h
      · exact h
  split
  · split
    · exact h
    · exact recS_kz h
  split
  · exact h
  · exact h
theorem snE_kz (n : Nat) (M : Mv) : ∀ j a, (snE n M j).rec_ a = false → (snE n M j).kept a = 0
  | 0, _ => fun _ => rfl
  | j + 1, a => sn_kz (snE_kz n M j) a
theorem kept_small {n : Nat} {s : SN} (h : SJ n s) (hk : ∀ a, s.rec_ a = false → s.kept a = 0) (hn : n ≤ 6) {i : Nat} (hi : i < n) : 0 ≤ s.kept i ∧ s.kept i ≤ 600 := by
  refine ⟨h.kept i, ?_⟩
  have hK : ∀ i, 0 ≤ cntK s i := fun i => by
    unfold cntK
    have := h.kept i
    have := h.have_ i
    split <;> omega
  have hC : ∀ p, 0 ≤ cntW s p := fun p => by
    unfold cntW
    have := h.wayR p
    have := pre_nn (h.way p)
    split <;> omega
  have a1 := sumS_ge (f := cntK s) (n := n) (fun i _ => hK i) i hi
  have a2 := (sumP_ge (f := cntW s) (n := n) fun p _ _ => hC p).1
  have a3 := h.all
  cases hr : s.rec_ i
  · rw [hk i hr]; decide
  · have : cntK s i = s.kept i := by unfold cntK; rw [if_pos hr]
    omega
def rowN (n : Nat) (s : SN) (i : Nat) : Int := s.kept i + sumS (fun j => s.wayR (i, j)) n
theorem sumS_bd {f : Nat → Int} {B : Nat} : ∀ {n : Nat}, (∀ i, i < n → 0 ≤ f i ∧ f i ≤ B) → 0 ≤ sumS f n ∧ sumS f n ≤ n * B
  | 0, _ => by simp [sumS]
  | n + 1, h => by
    have h1 := sumS_bd (n := n) fun i hi => h i (by omega)
    have h2 := h n (by omega)
    have e : ((n + 1 : Nat) : Int) * B = n * B + B := by push_cast; rw [Int.add_mul]; omega
    rw [sumS, e]; omega
theorem sumS_add {f g : Nat → Int} : ∀ n : Nat, sumS (fun i => f i + g i) n = sumS f n + sumS g n
  | 0 => rfl
  | n + 1 => by rw [sumS, sumS, sumS, sumS_add n]; omega
theorem row_small {n : Nat} {s : SN} (hB : BN n s) (hK : ∀ i, i < n → 0 ≤ s.kept i ∧ s.kept i ≤ 600) (hn : n ≤ 6) {i : Nat} (hi : i < n) : (0 ≤ rowN n s i ∧ rowN n s i ≤ 4200) ∧ ∀ q, q ≤ n → 0 ≤ sumS (fun j => s.wayR (i, j)) q ∧ sumS (fun j => s.wayR (i, j)) q ≤ 3600 := by
  have h2 : ∀ q, q ≤ n → 0 ≤ sumS (fun j => s.wayR (i, j)) q ∧ sumS (fun j => s.wayR (i, j)) q ≤ 3600 := fun q hq => by
    have := sumS_bd (f := fun j => s.wayR (i, j)) (B := 600) (n := q) fun j hj => hB.wr (i, j) hi (by show j < n; omega)
    omega
  have h3 := h2 n (Nat.le_refl _)
  have h4 := hK i hi
  unfold rowN
  exact ⟨by omega, h2⟩
theorem tot_small {n : Nat} {s : SN} (hB : BN n s) (hK : ∀ i, i < n → 0 ≤ s.kept i ∧ s.kept i ≤ 600) (hn : n ≤ 6) {i : Nat} (hi : i ≤ n) : 0 ≤ sumS (rowN n s) i ∧ sumS (rowN n s) i ≤ 25200 := by
  have := sumS_bd (f := rowN n s) (B := 4200) (n := i) fun j hj => (row_small hB hK hn (i := j) (by omega)).1
  omega
/-- If all is recorded, all is there. -/
theorem all_there {n : Nat} {s : SN} (h : SJ n s) (hn : n ≤ 6) (hd : ∀ a, s.way (a, a) = []) (hdone : snDone n s = true) : sumS (rowN n s) n = n * 100 := by
  obtain ⟨h1, h2⟩ := (done_iff h hn).1 hdone
  rw [← h.all]
  show sumS (fun i => s.kept i + sumS (fun j => s.wayR (i, j)) n) n = _
  rw [sumS_add]
  congr 1
  · exact sumS_congr fun i hi => by unfold cntK; rw [if_pos (h2 i hi)]
  · refine sumP_congr (f := s.wayR) fun p hp1 hp2 => ?_
    unfold cntW
    by_cases e : p.1 = p.2
    · have : s.way p = [] := by
        have := hd p.1
        rw [show (p.1, p.1) = p from Prod.ext rfl e] at this
        exact this
      rw [this]
      split <;> simp [pre]
    · rw [if_pos (h1 p.1 p.2 hp1 hp2 e)]; omega
/-- An inner row, as a whole. -/
theorem sn_row {g gh gr gk gw bm bc n : Nat} {C D : Value} {R : List LRow} {w0 w : World} {f : FQ → Value} {s : SN} {i : Nat} (h : LayN g gh gr gk gw bm bc n C D R w0 f s w) (hi : i < n) :
    ∃ b off cap, f (.inr i) = .slice (some ⟨b, off, none⟩) n cap ∧ n ≤ cap ∧ cap ≤ maxLen ∧ ∀ j, j < n → w.cell? ⟨b, off + j, none⟩ = some (.int .i64 (s.wayR (i, j))) := by
  obtain ⟨b, off, cap, hf, _, h1, h2, _⟩ := sn_inner h hi hi
  refine ⟨b, off, cap, hf, h1, h2, fun j hj => ?_⟩
  obtain ⟨b2, off2, cap2, hf2, hc, _⟩ := sn_inner h hi hj
  rw [hf] at hf2
  injection hf2 with hf2
  injection hf2 with hf2
  injection hf2 with e1 e2
  subst e1 e2
  exact hc
end Go.Proofs.Ytfcgjmekeonemaa
