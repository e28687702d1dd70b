/- What the laws of gossip ask: plain. -/
import Derived.Test.YtdpigpjcldcoaaaGoInv2
import Derived.Test.YtdpigpjcldcoaaaGo7
set_option linter.unusedVariables false
set_option linter.unusedSimpArgs false
namespace Go.Proofs.Ytdpigpjcldcoaaa
open Go.RowKit Go.Lib Go.Sort

/-- What one knows, in the order of the answer. -/
def srtOf (l : List Kn) (u : Nat → Nat) : List Kn := (List.range l.length).map fun t => knAt l (u t)
def Srt (n : Nat) (l ks : List Kn) : Prop := ∃ u, SrtOut (fun a b => cmpK n (knAt l a) (knAt l b)) l.length u ∧ ks = srtOf l u
theorem srtOf_len (l : List Kn) (u : Nat → Nat) : (srtOf l u).length = l.length := by simp [srtOf]
theorem srtOf_at (l : List Kn) (u : Nat → Nat) {t : Nat} (h : t < l.length) : knAt (srtOf l u) t = knAt l (u t) := by
  show ((List.range l.length).map fun t => knAt l (u t)).getD t Kn0 = _
  simp [List.getD_eq_getElem?_getD, List.getElem?_map, List.getElem?_range h]
theorem knF_perm {VR : List LRow} {n : Nat} {kl : List Kn} {F : Nat → Value} {u : Nat → Nat} (h : KnF VR n kl F) (hu : ∀ t, t < kl.length → u t < kl.length) : KnF VR n (srtOf kl u) (permF u F) := by
  intro i hi
  rw [srtOf_len] at hi
  rw [srtOf_at kl u hi]
  obtain ⟨h1, h2⟩ := h (u i) (hu i hi)
  unfold permF
  rw [show i * 2 / 2 = i by omega, show i * 2 % 2 = 0 by omega, show (i * 2 + 1) / 2 = i by omega, show (i * 2 + 1) % 2 = 1 by omega]
  exact ⟨h1, h2⟩
theorem Srt.len {n : Nat} {l ks : List Kn} (h : Srt n l ks) : ks.length = l.length := by
  obtain ⟨u, -, rfl⟩ := h
  exact srtOf_len l u
theorem Srt.mem {n : Nat} {l ks : List Kn} (h : Srt n l ks) {x : Kn} : x ∈ ks ↔ x ∈ l := by
  obtain ⟨u, hu, rfl⟩ := h
  constructor
  · intro hx
    obtain ⟨i, hi, rfl⟩ := in_knAt hx
    rw [srtOf_len] at hi
    rw [srtOf_at l u hi]
    exact knAt_in (hu.lt i hi)
  · intro hx
    obtain ⟨i, hi, rfl⟩ := in_knAt hx
    obtain ⟨r, hr, rfl⟩ := hu.sur i hi
    rw [← srtOf_at l u hr]
    exact knAt_in (by rw [srtOf_len]; exact hr)
theorem Srt.anti {n : Nat} {l ks : List Kn} (h : Srt n l ks) (ha : Anti n l) {i j : Nat} (hi : i < ks.length) (hj : j < ks.length) (hij : i ≠ j) : ¬ Le n (knAt ks i).vec (knAt ks j).vec := by
  obtain ⟨u, hu, rfl⟩ := h
  rw [srtOf_len] at hi hj
  rw [srtOf_at l u hi, srtOf_at l u hj]
  refine ha.ne (hu.lt i hi) (hu.lt j hj) fun e => ?_
  rcases Nat.lt_or_gt_of_ne hij with h1 | h1
  · exact hu.inj i j h1 hj e
  · exact hu.inj j i h1 hi e.symm
theorem Srt.up {n : Nat} {l ks : List Kn} (h : Srt n l ks) (ha : Anti n l) {i j : Nat} (hij : i < j) (hj : j < ks.length) : cmpK n (knAt ks i) (knAt ks j) < 0 := by
  have h1 := h.anti ha (show i < ks.length by omega) hj (by omega)
  obtain ⟨u, hu, rfl⟩ := h
  rw [srtOf_len] at hj
  have h2 := hu.up i j hij hj
  have h3 := cmp_flip n (knAt (srtOf l u) i) (knAt (srtOf l u) j)
  have h4 := (cmp_eq n (knAt (srtOf l u) i) (knAt (srtOf l u) j)).1
  have e1 := srtOf_at l u (t := i) (by omega)
  have e2 := srtOf_at l u hj
  rw [e1, e2] at h1 h3 h4 ⊢
  have h2 : ¬ cmpK n (knAt l (u j)) (knAt l (u i)) < 0 := h2
  rcases Int.lt_or_le (cmpK n (knAt l (u i)) (knAt l (u j))) 0 with h5 | h5
  · exact h5
  · exact absurd (h4 (by omega)).2.le h1
theorem pw_of {n : Nat} {ks : List Kn} (h : ∀ i j, i < j → j < ks.length → cmpK n (knAt ks i) (knAt ks j) < 0) : ks.Pairwise fun a b => cmpK n a b < 0 := by
  refine List.pairwise_iff_getElem.2 fun i j hi hj hij => ?_
  have e : ∀ k, (hk : k < ks.length) → knAt ks k = ks[k] := fun k hk => by simp [knAt, List.getD_eq_getElem?_getD, List.getElem?_eq_getElem hk]
  have := h i j hij hj
  rwa [e i hi, e j hj] at this
theorem cmp_self (n : Nat) (x : Kn) : cmpK n x x = 0 := (cmp_eq n x x).2 ⟨rfl, fun _ _ => rfl⟩
/-- Two rising lists of the same members are the same. -/
theorem sorted_same {n : Nat} : ∀ (a b : List Kn), a.Pairwise (fun x y => cmpK n x y < 0) → b.Pairwise (fun x y => cmpK n x y < 0) → (∀ x ∈ a, ∃ y ∈ b, cmpK n x y = 0) → (∀ y ∈ b, ∃ x ∈ a, cmpK n x y = 0) → a.length = b.length ∧ ∀ i, i < a.length → cmpK n (knAt a i) (knAt b i) = 0
  | [], b, _, _, _, h2 => by
    cases b with
    | nil => exact ⟨rfl, fun i hi => absurd hi (by simp)⟩
    | cons y tb => obtain ⟨x, hx, -⟩ := h2 y List.mem_cons_self; exact absurd hx List.not_mem_nil
  | x1 :: ta, b, ha, hb, h1, h2 => by
    cases b with
    | nil => obtain ⟨y, hy, -⟩ := h1 x1 List.mem_cons_self; exact absurd hy List.not_mem_nil
    | cons y1 tb =>
      obtain ⟨ha1, ha2⟩ := List.pairwise_cons.1 ha
      obtain ⟨hb1, hb2⟩ := List.pairwise_cons.1 hb
      have e : cmpK n x1 y1 = 0 := by
        obtain ⟨y, hy, e1⟩ := h1 x1 List.mem_cons_self
        obtain ⟨x, hx, e2⟩ := h2 y1 List.mem_cons_self
        have l1 : cmpK n y1 y ≤ 0 := by
          rcases List.mem_cons.1 hy with rfl | h
          · rw [cmp_self]; omega
          · have := hb1 y h; omega
        have l2 : cmpK n x1 x ≤ 0 := by
          rcases List.mem_cons.1 hx with rfl | h
          · rw [cmp_self]; omega
          · have := ha1 x h; omega
        have f1 := cmp_flip n x1 y
        have f2 := cmp_flip n x1 y1
        have a1 := (cmp_trans n y1 y x1 l1 (by omega)).1
        have a2 := (cmp_trans n x1 x y1 l2 (by omega)).1
        omega
      have f := cmp_flip n x1 y1
      obtain ⟨i1, i2⟩ := sorted_same ta tb ha2 hb2 (fun x hx => by
        obtain ⟨y, hy, e1⟩ := h1 x (List.mem_cons_of_mem _ hx)
        rcases List.mem_cons.1 hy with rfl | h
        · have a1 := ha1 x hx
          have a2 := (cmp_trans n x1 x y (by omega) (by omega)).2 (.inl a1)
          omega
        · exact ⟨y, h, e1⟩) (fun y hy => by
        obtain ⟨x, hx, e1⟩ := h2 y (List.mem_cons_of_mem _ hy)
        rcases List.mem_cons.1 hx with rfl | h
        · have a1 := hb1 y hy
          have f1 := cmp_flip n x y
          have a2 := (cmp_trans n x y1 y (by omega) (by omega)).2 (.inr a1)
          omega
        · exact ⟨x, h, e1⟩)
      refine ⟨by simp [i1], fun i hi => ?_⟩
      cases i with
      | zero => exact e
      | succ i => exact i2 i (by simpa using hi)
/-- The same members. -/
def SameK (n : Nat) (a b : List Kn) : Prop := (∀ x ∈ a, ∃ y ∈ b, Eqv n x.vec y.vec ∧ x.val = y.val) ∧ ∀ y ∈ b, ∃ x ∈ a, Eqv n x.vec y.vec ∧ x.val = y.val
theorem SameK.refl (n : Nat) (a : List Kn) : SameK n a a := ⟨fun x hx => ⟨x, hx, fun _ _ => rfl, rfl⟩, fun x hx => ⟨x, hx, fun _ _ => rfl, rfl⟩⟩
theorem srt_same {n : Nat} {a b ka kb : List Kn} (ha : Anti n a) (hb : Anti n b) (h : SameK n a b) (sa : Srt n a ka) (sb : Srt n b kb) : ka.length = kb.length ∧ ∀ i, i < ka.length → (knAt ka i).val = (knAt kb i).val ∧ Eqv n (knAt ka i).vec (knAt kb i).vec := by
  obtain ⟨h1, h2⟩ := sorted_same ka kb (pw_of fun i j hij hj => sa.up ha hij hj) (pw_of fun i j hij hj => sb.up hb hij hj)
    (fun x hx => by obtain ⟨y, hy, e1, e2⟩ := h.1 x (sa.mem.1 hx); exact ⟨y, sb.mem.2 hy, (cmp_eq n x y).2 ⟨e2, e1⟩⟩)
    (fun y hy => by obtain ⟨x, hx, e1, e2⟩ := h.2 y (sb.mem.1 hy); exact ⟨x, sa.mem.2 hx, (cmp_eq n x y).2 ⟨e2, e1⟩⟩)
  exact ⟨h1, fun i hi => (cmp_eq n _ _).1 (h2 i hi)⟩
/-- Who is told all that it may know knows just that. -/
theorem tell_same {n : Nat} {a b : List Kn} (hv : OneVal n (a ++ b)) (hk : Keeps n a b) (hb : Anti n b) : SameK n (tellL n a b) b := by
  constructor
  · intro x hx
    obtain ⟨h1, h2⟩ := tellL_mem hx
    rcases h1 with h1 | h1
    · obtain ⟨y, hy, h3⟩ := hk x h1
      rcases h3 with h3 | h3
      · exact absurd h3 (h2 y (.inr hy))
      · exact ⟨y, hy, h3⟩
    · exact ⟨x, h1, fun _ _ => rfl, rfl⟩
  · intro y hy
    obtain ⟨z, hz, h1⟩ := tellL_keeps hv y (List.mem_append.2 (.inr hy))
    rcases h1 with h1 | ⟨h1, h2⟩
    · exfalso
      rcases (tellL_mem hz).1 with h2 | h2
      · obtain ⟨y', hy', h3⟩ := hk z h2
        have hle : Le n z.vec y'.vec := h3.elim (fun h => h.1) (fun h => h.1.le)
        have := hb.eq hy hy' (h1.le.trans hle)
        subst this
        exact h1.irr hle
      · have := hb.eq hy h2 h1.le
        subst this
        exact h1.irr (fun _ _ => Nat.le_refl _)
    · exact ⟨z, hz, h1.symm, h2.symm⟩
theorem tell_is {n : Nat} (s : GS) {f t : Nat} (v : Int) (hf : f < n) (ht : t < n) : doS n 2 (f : Nat) (t : Nat) v s = (0, tellS n f t s) := by
  have h1 : inB n (f : Nat) = true := inB_iff.2 (by omega)
  have h2 : inB n (t : Nat) = true := inB_iff.2 (by omega)
  unfold doS
  rw [if_neg (by omega), if_neg (by simp [h1, h2]), if_pos rfl]
  simp
theorem write_is {n : Nat} (s : GS) {f : Nat} (t v : Int) (hf : f < n) (h0 : 0 ≤ v) (h9 : v ≤ 100) : doS n 1 (f : Nat) t v s = (0, writeS f v s) := by
  have h1 : inB n (f : Nat) = true := inB_iff.2 (by omega)
  unfold doS
  rw [if_neg (by omega), if_neg (by simp [h1]), if_neg (by omega), if_neg (by omega)]
  simp
theorem tellS_ne {n f t i : Nat} (s : GS) (h : i ≠ t) : (tellS n f t s).known i = s.known i := by
  show upd s.known t (tellL n (s.known t) (s.known f)) i = _
  rw [upd_ne _ _ h]
/-- The moves of tells, behind the first m. -/
structure Tells (n m : Nat) (M : Mv) : Prop where
  a : ∀ j, j < n - 1 → M.k (m + j) = 2 ∧ M.f (m + j) = (j + 1 : Nat) ∧ M.t (m + j) = (0 : Nat)
  b : ∀ j, j < n - 1 → M.k (m + (n - 1) + j) = 2 ∧ M.f (m + (n - 1) + j) = (0 : Nat) ∧ M.t (m + (n - 1) + j) = (j + 1 : Nat)
section
variable {n m : Nat} {M : Mv}
theorem Tells.in_ (h : Tells n m M) (hn : 1 ≤ n) (j : Nat) (hj : j < n - 1) : goE n M (m + j + 1) = tellS n (j + 1) 0 (goE n M (m + j)) := by
  obtain ⟨h1, h2, h3⟩ := h.a j hj
  show (doS n (M.k (m + j)) (M.f (m + j)) (M.t (m + j)) (M.v (m + j)) (goE n M (m + j))).2 = _
  rw [h1, h2, h3, tell_is _ _ (by omega) (by omega)]
theorem Tells.out_ (h : Tells n m M) (hn : 1 ≤ n) (j : Nat) (hj : j < n - 1) : goE n M (m + (n - 1) + j + 1) = tellS n 0 (j + 1) (goE n M (m + (n - 1) + j)) := by
  obtain ⟨h1, h2, h3⟩ := h.b j hj
  show (doS n (M.k (m + (n - 1) + j)) (M.f (m + (n - 1) + j)) (M.t (m + (n - 1) + j)) (M.v (m + (n - 1) + j)) (goE n M (m + (n - 1) + j))).2 = _
  rw [h1, h2, h3, tell_is _ _ (by omega) (by omega)]
theorem one_val (n : Nat) (M : Mv) (j : Nat) {f t : Nat} (hf : f < n) (ht : t < n) : OneVal n ((goE n M j).known t ++ (goE n M j).known f) := by
  obtain ⟨W, h⟩ := GI.all n M j
  exact fun x hx y hy => h.val x ((List.mem_append.1 hx).elim (h.sub t ht x) (h.sub f hf x)) y ((List.mem_append.1 hy).elim (h.sub t ht y) (h.sub f hf y))
theorem anti_all (n : Nat) (M : Mv) (j : Nat) {i : Nat} (hi : i < n) : Anti n ((goE n M j).known i) := by
  obtain ⟨W, h⟩ := GI.all n M j
  exact h.anti i hi
theorem Tells.first (h : Tells n m M) (hn : 1 ≤ n) : ∀ j, j ≤ n - 1 → (∀ i, 1 ≤ i → (goE n M (m + j)).known i = (goE n M m).known i) ∧ ∀ i, 1 ≤ i → i ≤ j → Keeps n ((goE n M m).known i) ((goE n M (m + j)).known 0)
  | 0, _ => ⟨fun _ _ => rfl, fun i h1 h2 => absurd h1 (by omega)⟩
  | j + 1, hj => by
    obtain ⟨h1, h2⟩ := h.first hn j (by omega)
    have e := h.in_ hn j (by omega)
    have hk := tellL_keeps (one_val n M (m + j) (show j + 1 < n by omega) (show 0 < n by omega))
    rw [← Nat.add_assoc, e]
    constructor
    · intro i hi
      exact (tellS_ne _ (by omega)).trans (h1 i hi)
    · intro i hi hij
      show Keeps n _ (upd (goE n M (m + j)).known 0 (tellL n ((goE n M (m + j)).known 0) ((goE n M (m + j)).known (j + 1))) 0)
      rw [upd_same]
      rcases Nat.lt_succ_iff_lt_or_eq.1 (Nat.lt_succ_of_le hij) with h3 | rfl
      · exact (h2 i hi (by omega)).trans fun x hx => hk x (List.mem_append.2 (.inl hx))
      · rw [← h1 (j + 1) (by omega)]
        exact fun x hx => hk x (List.mem_append.2 (.inr hx))
theorem Tells.second (h : Tells n m M) (hn : 1 ≤ n) : ∀ j, j ≤ n - 1 → (goE n M (m + (n - 1) + j)).known 0 = (goE n M (m + (n - 1))).known 0 ∧ (∀ i, j < i → (goE n M (m + (n - 1) + j)).known i = (goE n M m).known i) ∧ ∀ i, 1 ≤ i → i ≤ j → SameK n ((goE n M (m + (n - 1) + j)).known i) ((goE n M (m + (n - 1))).known 0)
  | 0, _ => ⟨rfl, fun i hi => (h.first hn (n - 1) (Nat.le_refl _)).1 i (by omega), fun i h1 h2 => absurd h1 (by omega)⟩
  | j + 1, hj => by
    obtain ⟨h1, h2, h3⟩ := h.second hn j (by omega)
    have e := h.out_ hn j (by omega)
    have hv := one_val n M (m + (n - 1) + j) (show 0 < n by omega) (show j + 1 < n by omega)
    have hk := (h.first hn (n - 1) (Nat.le_refl _)).2 (j + 1) (by omega) (by omega)
    have hb := anti_all n M (m + (n - 1)) (show 0 < n by omega)
    rw [← Nat.add_assoc, e]
    refine ⟨?_, fun i hi => ?_, fun i hi hij => ?_⟩
    · exact (tellS_ne _ (by omega)).trans h1
    · exact (tellS_ne _ (by omega)).trans (h2 i (by omega))
    · show SameK n (upd (goE n M (m + (n - 1) + j)).known (j + 1) (tellL n ((goE n M (m + (n - 1) + j)).known (j + 1)) ((goE n M (m + (n - 1) + j)).known 0)) i) _
      rcases Nat.lt_succ_iff_lt_or_eq.1 (Nat.lt_succ_of_le hij) with h4 | rfl
      · rw [upd_ne _ _ (by omega)]; exact h3 i hi (by omega)
      · rw [upd_same]
        rw [h1] at hv ⊢
        rw [h2 (j + 1) (by omega)] at hv ⊢
        exact tell_same hv hk hb
theorem Tells.all (h : Tells n m M) (hn : 1 ≤ n) {i : Nat} (hi : i < n) : SameK n ((goE n M (m + (n - 1) + (n - 1))).known i) ((goE n M (m + (n - 1) + (n - 1))).known 0) := by
  obtain ⟨h1, -, h3⟩ := h.second hn (n - 1) (Nat.le_refl _)
  rw [h1]
  by_cases e : i = 0
  · subst e; rw [h1]; exact SameK.refl _ _
  · exact h3 i (by omega) (by omega)
end
/-- Who wrote knows something. -/
theorem wrote_knows {n m : Nat} {M : Mv} {j : Nat} (hj : j < m) (hk : M.k j = 1) (hc : goC n M j = 0) : ∃ F : Nat, F < n ∧ M.f j = (F : Nat) ∧ (goE n M m).known F ≠ [] := by
  have hd := doS_is n (M.k j) (M.f j) (M.t j) (M.v j) (goE n M j)
  have hc : (doS n (M.k j) (M.f j) (M.t j) (M.v j) (goE n M j)).1 = 0 := hc
  have hE : goE n M (j + 1) = (doS n (M.k j) (M.f j) (M.t j) (M.v j) (goE n M j)).2 := rfl
  generalize doS n (M.k j) (M.f j) (M.t j) (M.v j) (goE n M j) = r at hd hc hE
  obtain ⟨r1, r2⟩ := r
  cases hd with
  | no _ h => exact absurd hc h
  | tell F T hF hT h _ _ => omega
  | write F hF _ ef _ _ =>
    refine ⟨F, hF, ef, fun e => ?_⟩
    have h1 := goE_keeps n M hF (j + 1) (m - (j + 1))
    rw [show j + 1 + (m - (j + 1)) = m by omega, e, hE] at h1
    have hx : newK (goE n M j) F (M.v j) ∈ (writeS F (M.v j) (goE n M j)).known F := by
      show _ ∈ upd _ F _ F
      rw [upd_same]; exact List.mem_singleton.2 rfl
    obtain ⟨y, hy, -⟩ := h1 _ hx
    exact absurd hy List.not_mem_nil
/-- Who writes knows that alone, and whom it tells knows it, too. -/
theorem own_law {n m : Nat} {M : Mv} {i j : Nat} {v : Int} (hi : i < n) (hj : j < n) (h0 : 0 ≤ v) (h9 : v ≤ 100) (hw : M.k m = 1 ∧ M.f m = (i : Nat) ∧ M.v m = v) (ht : M.k (m + 1) = 2 ∧ M.f (m + 1) = (i : Nat) ∧ M.t (m + 1) = (j : Nat)) :
    ∃ x : Kn, x.val = v ∧ (i ≠ j → (goE n M (m + 2)).known i = [x]) ∧ (goE n M (m + 2)).known i ≠ [] ∧ (∀ y ∈ (goE n M (m + 2)).known i, y = x) ∧ ∃ y ∈ (goE n M (m + 2)).known j, y.val = v ∧ Eqv n y.vec x.vec := by
  obtain ⟨W, h⟩ := GI.all n M m
  have e1 : goE n M (m + 1) = writeS i v (goE n M m) := by
    show (doS n (M.k m) (M.f m) (M.t m) (M.v m) (goE n M m)).2 = _
    rw [hw.1, hw.2.1, hw.2.2, write_is _ _ _ hi h0 h9]
  have e2 : goE n M (m + 2) = tellS n i j (goE n M (m + 1)) := by
    show (doS n (M.k (m + 1)) (M.f (m + 1)) (M.t (m + 1)) (M.v (m + 1)) (goE n M (m + 1))).2 = _
    rw [ht.1, ht.2.1, ht.2.2, tell_is _ _ hi hj]
  have hv := one_val n M (m + 1) hi hj
  obtain ⟨x, hx⟩ : ∃ x, x = newK (goE n M m) i v := ⟨_, rfl⟩
  have hxv : x.val = v := by rw [hx]; rfl
  have hxi : x.vec i = (goE n M m).wrote i + 1 := by rw [hx]; exact if_pos rfl
  have ki : (goE n M (m + 1)).known i = [x] := by rw [e1, hx]; exact upd_same _ _ _
  have kj : i ≠ j → (goE n M (m + 1)).known j = (goE n M m).known j := fun hne => by rw [e1]; exact upd_ne _ _ (Ne.symm hne)
  refine ⟨x, hxv, ?_⟩
  have k2 : ∀ k, (goE n M (m + 2)).known k = upd (goE n M (m + 1)).known j (tellL n ((goE n M (m + 1)).known j) ((goE n M (m + 1)).known i)) k := fun k => by rw [e2]; rfl
  by_cases hij : i = j
  · subst hij
    have hk := k2 i
    rw [upd_same, ki] at hk
    rw [ki] at hv
    have hall : ∀ y ∈ tellL n [x] [x], y = x := fun y hy => by
      rcases (tellL_mem hy).1 with h1 | h1
      · exact List.mem_singleton.1 h1
      · exact List.mem_singleton.1 h1
    obtain ⟨y, hy, -⟩ := tellL_keeps hv x (List.mem_append.2 (.inl (List.mem_singleton.2 rfl)))
    rw [hk]
    exact ⟨fun h => absurd rfl h, List.ne_nil_of_mem hy, hall, x, by have := hall y hy; rwa [this] at hy, hxv, fun _ _ => rfl⟩
  · have hkj := k2 j
    have hki := k2 i
    rw [upd_same] at hkj
    rw [upd_ne _ _ hij, ki] at hki
    rw [hki, hkj]
    refine ⟨fun _ => rfl, by simp, fun y hy => List.mem_singleton.1 hy, ?_⟩
    obtain ⟨y, hy, h1⟩ := tellL_keeps hv x (List.mem_append.2 (.inr (by rw [ki]; exact List.mem_singleton.2 rfl)))
    have hyi : y = x := by
      rcases (tellL_mem hy).1 with h2 | h2
      · rw [kj hij] at h2
        have h3 := h.le y (h.sub j hj y h2) i hi
        have h4 : x.vec i ≤ y.vec i := h1.elim (fun h => h.1 i hi) (fun h => Nat.le_of_eq (h.1 i hi))
        omega
      · rw [ki] at h2; exact List.mem_singleton.1 h2
    subst hyi
    exact ⟨y, hy, hxv, fun _ _ => rfl⟩
end Go.Proofs.Ytdpigpjcldcoaaa
