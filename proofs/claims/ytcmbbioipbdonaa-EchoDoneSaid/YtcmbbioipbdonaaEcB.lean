/- Bounds along the way; the start. -/
import Derived.Test.YtcmbbioipbdonaaEcInv
set_option linter.unusedVariables false
set_option linter.unusedSimpArgs false
namespace Go.Proofs.Ytcmbbioipbdonaa
open Go.RowKit

structure WBd (n j : Nat) (s : ES) : Prop where
  near : ∀ i x, x ∈ s.near i → x < n
  len : ∀ i, (s.near i).length ≤ 15
  way : s.way.length ≤ 16 + 16 * j
  sent : s.sent ≤ 16 + 16 * j
  w0 : ∀ i, -(j : Int) ≤ s.wait i
  w1 : ∀ i, s.wait i ≤ 15
  mem : ∀ x ∈ s.way, x.1 < n ∧ x.2 < n
  fr : ∀ i, 0 ≤ s.frm i → s.frm i < n
theorem setOff_len (f t : Nat) (s : ES) : (setOff f t s).length ≤ (s.near t).length + 1 := by
  unfold setOff
  rw [List.length_append]
  have h1 := List.length_filter_le (fun j => j != f) (s.near t)
  split <;> split <;> simp <;> omega
theorem setOff_mem {n j f t x : Nat} {s : ES} (h : WBd n j s) (hf : f < n) (hx : x ∈ setOff f t s) : x < n := by
  unfold setOff at hx
  rw [List.mem_append] at hx
  rcases hx with hx | hx
  · split at hx
    · exact h.near t x (List.mem_filter.1 hx).1
    · cases hx
  · by_cases h2 : s.wait t - 1 = 0 ∧ 0 ≤ (if s.frm t = -1 then (f : Int) else s.frm t)
    · rw [if_pos h2] at hx
      have hx := List.mem_singleton.1 hx
      subst hx
      have h3 := h2.2
      split at h3
      · rename_i h4; rw [if_pos h4]; exact hf
      · rename_i h4; rw [if_neg h4]; have := h.fr t h3; omega
    · rw [if_neg h2] at hx; cases hx
theorem WBd.take {n j f t : Nat} {s : ES} (h : WBd n j s) (hf : f < n) (ht : t < n) : WBd n (j + 1) (takeS f t s) := by
  rw [takeS_eq]
  have hl := setOff_len f t s
  have hn := h.len t
  have hw := h.way
  have hs := h.sent
  refine ⟨h.near, h.len, ?_, ?_, fun i => ?_, fun i => ?_, fun x hx => ?_, fun i hi => ?_⟩
  · show (s.way ++ List.map _ _).length ≤ _
    rw [List.length_append, List.length_map]; omega
  · show s.sent + _ ≤ _
    omega
  · show -((j + 1 : Nat) : Int) ≤ upd s.wait t (s.wait t - 1) i
    have h1 := h.w0 i
    have h2 := h.w0 t
    unfold upd; split <;> omega
  · show upd s.wait t (s.wait t - 1) i ≤ 15
    have h1 := h.w1 i
    have h2 := h.w1 t
    unfold upd; split <;> omega
  · have hx : x ∈ s.way ++ (setOff f t s).map (fun j => (t, j)) := hx
    rcases List.mem_append.1 hx with hx | hx
    · exact h.mem x hx
    · obtain ⟨y, hy, rfl⟩ := List.mem_map.1 hx
      exact ⟨ht, setOff_mem h hf hy⟩
  · have hi : 0 ≤ (if s.frm t = -1 then upd s.frm t (f : Nat) else s.frm : Nat → Int) i := hi
    show (if s.frm t = -1 then upd s.frm t (f : Nat) else s.frm : Nat → Int) i < n
    split at hi
    · rename_i h1
      rw [if_pos h1]
      unfold upd at hi ⊢
      split
      · omega
      · rename_i h2; rw [if_neg h2] at hi; exact h.fr i hi
    · rename_i h1
      rw [if_neg h1]; exact h.fr i hi
theorem WBd.more {n j : Nat} {s : ES} (h : WBd n j s) : WBd n (j + 1) s :=
  ⟨h.near, h.len, by have := h.way; omega, by have := h.sent; omega, fun i => by have := h.w0 i; omega, h.w1, h.mem, h.fr⟩
theorem WBd.pull {n j k : Nat} {s : ES} (h : WBd n j s) : WBd n j (pull k s) :=
  ⟨h.near, h.len, Nat.le_trans (List.length_eraseIdx_le ..) h.way, h.sent, h.w0, h.w1, fun x hx => h.mem x (List.mem_of_mem_eraseIdx hx), h.fr⟩
theorem getD_mem {l : List (Nat × Nat)} {k : Nat} (hk : k < l.length) : l.getD k (0, 0) ∈ l := by
  rw [List.getD_eq_getElem?_getD, List.getElem?_eq_getElem hk]; exact List.getElem_mem hk
theorem WBd.step {n j : Nat} {k : Int} {s : ES} (h : WBd n j s) : WBd n (j + 1) (stepS k s).2 := by
  unfold stepS
  split
  · rename_i hk
    have := h.mem _ (getD_mem hk.2)
    exact (h.pull (k := k.toNat)).take this.1 this.2
  · exact h.more
section
variable {n m st : Nat} {p q : Nat → Nat}
theorem WBd.start (h : LkP n m p q) (hst : st < n) : WBd n 0 (ec1 p q m st) := by
  have hl : ∀ i, (nearS p q m i).length ≤ 15 := fun i => by rw [nearS_len]; have := nearK_len (p := p) (q := q) i m; have := h.hm; omega
  refine ⟨fun i x hx => (nearS_at h hx).2.1, hl, ?_, ?_, fun i => ?_, fun i => ?_, fun x hx => ?_, fun i hi => ?_⟩
  · show ([] ++ List.map _ _ : List (Nat × Nat)).length ≤ _
    rw [List.length_append, List.length_map]
    have := hl st
    simp; omega
  · show 0 + _ ≤ _
    have := hl st
    omega
  · show (-((0 : Nat) : Int)) ≤ ((nearS p q m i).length : Int)
    omega
  · show ((nearS p q m i).length : Int) ≤ 15
    have := hl i
    omega
  · have hx : x ∈ ([] ++ (nearS p q m st).map fun j => (st, j) : List (Nat × Nat)) := hx
    rw [List.nil_append] at hx
    obtain ⟨y, hy, rfl⟩ := List.mem_map.1 hx
    exact ⟨hst, (nearS_at h hy).2.1⟩
  · have hi : 0 ≤ upd (fun _ => (-1 : Int)) st (-2) i := hi
    unfold upd at hi
    split at hi
    · omega
    · have hi : 0 ≤ (-1 : Int) := hi
      omega
theorem WBd.all (h : LkP n m p q) (hst : st < n) (o : Nat → Int) : ∀ j, WBd n j (ecE (ec1 p q m st) o j)
  | 0 => WBd.start h hst
  | j + 1 => (WBd.all h hst o j).step
/-- At the start. -/
theorem EI.start (h : LkP n m p q) (hst : st < n) : EI n st (ec1 p q m st) (fun _ _ => false) (fun _ => 0) := by
  have hfr : ∀ i, (ec1 p q m st).frm i = if i = st then -2 else -1 := fun i => rfl
  have hwy : (ec1 p q m st).way = (nearS p q m st).map fun j => (st, j) := List.nil_append _
  refine ⟨fun a b hb => nearS_at h hb, fun a => nearS_nodup h a, hst, by rw [hfr, if_pos rfl], fun a _ hne => .inl (by rw [hfr, if_neg hne]), fun a ha => ?_, fun _ _ _ => rfl, ?_, fun a b => ?_, fun _ _ h => absurd h (by decide), rfl, fun a ha hf => ?_, ?_⟩
  · show ((nearS p q m a).length : Int) = ((nearS p q m a).countP fun b => !false : Nat)
    have h1 : (nearS p q m a).countP (fun _ => !false) = (nearS p q m a).length := List.countP_eq_length.2 fun _ _ => rfl
    rw [h1]
  · rw [hwy]
    unfold List.Nodup
    rw [List.pairwise_map]
    exact (nearS_nodup h st).imp fun hab e => hab (by injection e)
  · rw [hwy, List.mem_map]
    unfold Sent
    rw [hfr]
    constructor
    · rintro ⟨c, hc, he⟩
      injection he with h1 h2
      subst h1 h2
      exact ⟨⟨hc, by rw [if_pos rfl]; decide, fun e => by rw [if_pos rfl] at e; omega⟩, rfl⟩
    · rintro ⟨⟨h1, h2, _⟩, _⟩
      by_cases ha : a = st
      · subst ha; exact ⟨b, h1, rfl⟩
      · rw [if_neg ha] at h2; exact absurd rfl h2
  · have : 1 ≤ sumN n (hrd (ec1 p q m st)) := by
      have h1 : hrd (ec1 p q m st) st = 1 := by unfold hrd; rw [hfr, if_pos rfl]; decide
      have := sumN_pos (g := hrd (ec1 p q m st)) hst
      omega
    exact this
  · have h1 := sumN_put (g := fun _ => 0) (h := outN (ec1 p q m st)) (i := st) hst fun j hj hne => by unfold outN; rw [hfr, if_neg hne]; rfl
    have h2 : outN (ec1 p q m st) st = (nearS p q m st).length := by unfold outN; rw [hfr, if_pos rfl]; rfl
    have h3 : ∀ n, sumN n (fun _ => 0) = 0 := fun n => by
      have := sumN_le (g := fun _ => 0) (c := 0) (n := n) fun _ _ => Nat.le_refl _
      omega
    have h4 : (ec1 p q m st).sent = (nearS p q m st).length := Nat.zero_add _
    rw [h4, ← h2]
    have := h3 n
    omega
theorem EI.step {rc : Nat → Nat → Bool} {dep : Nat → Nat} {s : ES} (h : EI n st s rc dep) (k : Int) : ∃ rc' dep', EI n st (stepS k s).2 rc' dep' := by
  unfold stepS
  split
  · rename_i hk
    obtain ⟨dep', h1⟩ := h.take hk.2 (f := (s.way.getD k.toNat (0, 0)).1) (t := (s.way.getD k.toNat (0, 0)).2) rfl
    exact ⟨_, _, h1⟩
  · exact ⟨_, _, h⟩
theorem EI.all (h : LkP n m p q) (hst : st < n) (o : Nat → Int) : ∀ j, ∃ rc dep, EI n st (ecE (ec1 p q m st) o j) rc dep
  | 0 => ⟨_, _, EI.start h hst⟩
  | j + 1 => by
    obtain ⟨rc, dep, h1⟩ := EI.all h hst o j
    exact h1.step _
theorem near_all (o : Nat → Int) (s0 : ES) : ∀ j, (ecE s0 o j).near = s0.near
  | 0 => rfl
  | j + 1 => by
    show (stepS (o j) (ecE s0 o j)).2.near = _
    unfold stepS
    split
    · show (takeS _ _ _).near = _
      rw [takeS_eq]
      exact near_all o s0 j
    · exact near_all o s0 j
end
end Go.Proofs.Ytcmbbioipbdonaa
