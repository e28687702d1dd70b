/- The echo algorithm: what always holds stays. -/
import Derived.Test.YtcmbbioipbdonaaEcMath
set_option linter.unusedVariables false
set_option linter.unusedSimpArgs false
namespace Go.Proofs.Ytcmbbioipbdonaa
open Go.RowKit

section
variable {n st : Nat} {s : ES} {rc : Nat → Nat → Bool} {dep : Nat → Nat}
def rcPut (rc : Nat → Nat → Bool) (t f : Nat) : Nat → Nat → Bool := fun b a => rc b a || (b == t && a == f)
/-- What a message sets off: who is sent to. -/
def setOff (f t : Nat) (s : ES) : List Nat :=
  (if s.frm t = -1 then (s.near t).filter fun j => j != f else []) ++ (if s.wait t - 1 = 0 ∧ 0 ≤ (if s.frm t = -1 then (f : Int) else s.frm t) then [(if s.frm t = -1 then (f : Int) else s.frm t).toNat] else [])
theorem takeS_eq (f t : Nat) (s : ES) : takeS f t s = ⟨s.near, s.way ++ (setOff f t s).map (fun j => (t, j)), upd s.wait t (s.wait t - 1), if s.frm t = -1 then upd s.frm t (f : Nat) else s.frm, s.sent + (setOff f t s).length⟩ := by
  unfold takeS takeA takeC takeB setOff sends
  by_cases h1 : s.frm t = -1
  · simp only [h1, if_true, upd_same]
    by_cases h2 : s.wait t - 1 = 0 ∧ 0 ≤ (f : Int)
    · simp [h2]; omega
    · rw [if_neg h2, if_neg h2]; simp
  · simp only [h1, if_false, upd_same, List.nil_append]
    by_cases h2 : s.wait t - 1 = 0 ∧ 0 ≤ s.frm t
    · simp [h2]
    · rw [if_neg h2, if_neg h2]; simp
theorem opt_nodup (c : Prop) [Decidable c] (x : Nat) : (if c then [x] else []).Nodup := by split <;> simp
theorem split_at {α : Type} {l : List α} {k : Nat} {x d : α} (hk : k < l.length) (hx : l.getD k d = x) : ∃ l1 l2, l = l1 ++ x :: l2 ∧ l.eraseIdx k = l1 ++ l2 := by
  refine ⟨l.take k, l.drop (k + 1), ?_, List.eraseIdx_eq_take_drop_succ ..⟩
  have : x = l[k] := by rw [← hx, List.getD_eq_getElem?_getD, List.getElem?_eq_getElem hk]; rfl
  rw [this, List.getElem_cons_drop, List.take_append_drop]
theorem EI.take (h : EI n st s rc dep) {k : Nat} {f t : Nat} (hk : k < s.way.length) (hm : s.way.getD k (0, 0) = (f, t)) : ∃ dep', EI n st (takeS f t (pull k s)) (rcPut rc t f) dep' := by
  obtain ⟨l1, l2, hl, he⟩ := split_at hk hm
  have hmem : (f, t) ∈ s.way := by rw [hl]; simp
  obtain ⟨⟨s1, s2, s3⟩, hrc⟩ := (h.wm f t).1 hmem
  have hnb := h.nb f t s1
  obtain ⟨hfn, htn, hft, hnt⟩ := hnb
  have hnd := h.wnd
  rw [hl, List.nodup_append] at hnd
  obtain ⟨n1, n2, n3⟩ := hnd
  rw [List.nodup_cons] at n2
  have hwl : ∀ x, x ∈ l1 ++ l2 ↔ x ∈ s.way ∧ x ≠ (f, t) := by
    intro x
    rw [hl]
    simp only [List.mem_append, List.mem_cons]
    constructor
    · rintro (h1 | h1)
      · exact ⟨.inl h1, fun e => n3 _ h1 _ (by rw [e]; simp) rfl⟩
      · exact ⟨.inr (.inr h1), fun e => n2.1 (e ▸ h1)⟩
    · rintro ⟨h1 | h1 | h1, h2⟩
      · exact .inl h1
      · exact absurd h1 h2
      · exact .inr h1
  have hwnd : (l1 ++ l2).Nodup := by
    rw [List.nodup_append]
    exact ⟨n1, n2.2, fun a ha b hb => n3 a ha b (by simp [hb])⟩
  -- the count of one who waits
  have hcnt : (s.near t).countP (fun b => !rc t b) = (s.near t).countP (fun b => !rcPut rc t f t b) + 1 :=
    countP_set (h.nd t) hnt (by simp [hrc]) (by simp [rcPut]) fun y hy => by simp [rcPut, hy]
  have hwt := h.wt t htn
  have hw1 : 1 ≤ s.wait t := by omega
  rw [takeS_eq]
  show ∃ dep', EI n st ⟨s.near, s.way.eraseIdx k ++ (setOff f t (pull k s)).map (fun j => (t, j)), upd s.wait t (s.wait t - 1), if s.frm t = -1 then upd s.frm t (f : Nat) else s.frm, s.sent + (setOff f t (pull k s)).length⟩ (rcPut rc t f) dep'
  have hso : setOff f t (pull k s) = setOff f t s := rfl
  rw [hso, he]
  obtain ⟨X, hX⟩ : ∃ X, X = setOff f t s := ⟨_, rfl⟩
  rw [← hX]
  obtain ⟨s', hs'⟩ : ∃ s', s' = (⟨s.near, l1 ++ l2 ++ X.map (fun j => (t, j)), upd s.wait t (s.wait t - 1), if s.frm t = -1 then upd s.frm t (f : Nat) else s.frm, s.sent + X.length⟩ : ES) := ⟨_, rfl⟩
  rw [← hs']
  have e1 : s'.near = s.near := by rw [hs']
  have e2 : s'.way = l1 ++ l2 ++ X.map (fun j => (t, j)) := by rw [hs']
  have e3 : ∀ a, a ≠ t → s'.wait a = s.wait a := by intro a ha; rw [hs']; exact upd_ne _ _ ha
  have e4 : s'.wait t = s.wait t - 1 := by rw [hs']; exact upd_same _ _ _
  have e5 : ∀ a, a ≠ t → s'.frm a = s.frm a := by intro a ha; rw [hs']; show (if _ then _ else _ : Nat → Int) a = _; split; exact upd_ne _ _ ha; rfl
  have e6 : s.frm t = -1 → s'.frm t = (f : Nat) := by intro h1; rw [hs']; show (if _ then _ else _ : Nat → Int) t = _; rw [if_pos h1]; exact upd_same _ _ _
  have e7 : s.frm t ≠ -1 → s'.frm t = s.frm t := by intro h1; rw [hs']; show (if _ then _ else _ : Nat → Int) t = _; rw [if_neg h1]
  have e8 : s'.sent = s.sent + X.length := by rw [hs']
  clear hs' hso
  -- who sent more
  have hXm : ∀ b, b ∈ X ↔ Sent s' t b ∧ ¬ Sent s t b := by
    intro b
    rw [hX]
    unfold setOff Sent
    rw [e1, e4]
    by_cases h1 : s.frm t = -1
    · rw [if_pos h1, e6 h1]
      simp only [h1, if_true, List.mem_append, List.mem_filter]
      constructor
      · rintro (⟨h2, h3⟩ | h2)
        · have h3' : b ≠ f := by simpa using h3
          exact ⟨⟨h2, by omega, fun e => absurd (by omega) h3'⟩, fun h4 => h4.2.1 rfl⟩
        · split at h2
          · rename_i h3
            obtain rfl : b = f := by simpa using h2
            exact ⟨⟨hnt, by omega, fun _ => h3.1⟩, fun h4 => h4.2.1 rfl⟩
          · cases h2
      · rintro ⟨⟨h2, h3, h4⟩, _⟩
        by_cases h5 : b = f
        · subst h5
          right
          rw [if_pos ⟨h4 rfl, by omega⟩]
          simp
        · exact .inl ⟨h2, by simpa using h5⟩
    · rw [if_neg h1, e7 h1]
      simp only [h1, if_false, List.nil_append]
      constructor
      · intro h2
        split at h2
        · rename_i h3
          obtain rfl : b = (s.frm t).toNat := by simpa using h2
          have hfb : s.frm t = ((s.frm t).toNat : Nat) := by omega
          refine ⟨⟨?_, h1, fun _ => h3.1⟩, fun h4 => by have := h4.2.2 hfb; omega⟩
          by_cases h5 : t = st
          · have := h.fs; rw [← h5] at this; omega
          · rcases h.fr t htn h5 with h6 | ⟨p, h6, h7, _⟩
            · exact absurd h6 h1
            · have : (s.frm t).toNat = p := by omega
              rw [this]; exact h7
        · cases h2
      · rintro ⟨⟨h2, h3, h4⟩, h5⟩
        have h6 : s.frm t = (b : Nat) := by
          refine Classical.byContradiction fun h6 => h5 ⟨h2, h3, fun e => absurd e h6⟩
        rw [if_pos ⟨h4 h6, by omega⟩]
        simp; omega
  have hmono : ∀ a b, Sent s a b → Sent s' a b := by
    rintro a b ⟨h1, h2, h3⟩
    by_cases ha : a = t
    · subst ha
      refine ⟨by rw [e1]; exact h1, by rw [e7 h2]; exact h2, fun e => ?_⟩
      rw [e7 h2] at e
      have := h3 e
      omega
    · exact ⟨by rw [e1]; exact h1, by rw [e5 a ha]; exact h2, fun e => by rw [e5 a ha] at e; rw [e3 a ha]; exact h3 e⟩
  have hback : ∀ a b, a ≠ t → Sent s' a b → Sent s a b := by
    rintro a b ha ⟨h1, h2, h3⟩
    exact ⟨by rw [← e1]; exact h1, by rw [← e5 a ha]; exact h2, fun e => by rw [← e5 a ha] at e; rw [← e3 a ha]; exact h3 e⟩
  have hXnd : X.Nodup := by
    rw [hX]
    unfold setOff
    by_cases h1 : s.frm t = -1
    · rw [if_pos h1, List.nodup_append]
      refine ⟨(h.nd t).sublist List.filter_sublist, opt_nodup _ _, fun a ha b hb e => ?_⟩
      simp only [h1, if_true] at hb
      split at hb
      · obtain rfl : b = f := by simpa using hb
        subst e
        simp at ha
      · cases hb
    · rw [if_neg h1, List.nil_append]
      exact opt_nodup _ _
  have hfrm : ∀ a, s'.frm a = -1 → s.frm a = -1 := by
    intro a ha
    by_cases h1 : a = t
    · subst h1
      refine Classical.byContradiction fun h2 => h2 (by rw [← e7 h2]; exact ha)
    · rw [← e5 a h1]; exact ha
  have hfrt : s'.frm t ≠ -1 := by
    by_cases h1 : s.frm t = -1
    · rw [e6 h1]; omega
    · rw [e7 h1]; exact h1
  have htst : s.frm t = -1 → t ≠ st := fun h1 e => by have := h.fs; rw [← e] at this; omega
  have hrp : ∀ b a, rcPut rc t f b a = true ↔ rc b a = true ∨ (b = t ∧ a = f) := by
    intro b a
    simp [rcPut]
  have hrf : ∀ b a, rcPut rc t f b a = false ↔ rc b a = false ∧ ¬ (b = t ∧ a = f) := by
    intro b a
    simp [rcPut]
  have hcountH : sumN n (hrd s') = sumN n (hrd s) + (if s.frm t = -1 then 1 else 0) := by
    have := sumN_put (g := hrd s) (h := hrd s') (i := t) htn fun j hj hjt => by unfold hrd; rw [e5 j hjt]
    have h1 : hrd s' t = 1 := by unfold hrd; rw [if_neg hfrt]
    have h2 : hrd s t = if s.frm t = -1 then 0 else 1 := rfl
    rw [h1, h2] at this
    split at this <;> simp_all <;> omega
  refine ⟨fun a => if a = t ∧ s.frm t = -1 then dep f + 1 else dep a, ⟨fun a b hb => ?_, fun a => ?_, h.hst, ?_, fun a ha hast => ?_, fun a ha => ?_, fun a ha b => ?_, ?_, fun a b => ?_, fun a b hr => ?_, ?_, fun a ha hfa => ?_, ?_⟩⟩
  · rw [e1] at hb ⊢; exact h.nb a b hb
  · rw [e1]; exact h.nd a
  · by_cases h1 : st = t
    · have h2 := h.fs
      rw [h1] at h2
      rw [h1, e7 (by omega)]; exact h2
    · rw [e5 st h1]; exact h.fs
  · by_cases h1 : a = t
    · subst h1
      by_cases h2 : s.frm a = -1
      · refine .inr ⟨f, e6 h2, by rw [e1]; exact hnt, (hrp _ _).2 (.inr ⟨rfl, rfl⟩), by rw [e5 f hft]; exact s2, ?_⟩
        rw [if_pos ⟨rfl, h2⟩, if_neg (fun h3 => hft h3.1)]
      · rcases h.fr a ha hast with h3 | ⟨p, h3, h4, h5, h6, h7⟩
        · exact absurd h3 h2
        · refine .inr ⟨p, by rw [e7 h2]; exact h3, by rw [e1]; exact h4, (hrp _ _).2 (.inl h5), fun h8 => h6 (hfrm p h8), ?_⟩
          rw [if_neg (fun h8 => h2 h8.2), if_neg (fun h8 => h2 h8.2)]; exact h7
    · rcases h.fr a ha hast with h3 | ⟨p, h3, h4, h5, h6, h7⟩
      · exact .inl (by rw [e5 a h1]; exact h3)
      · refine .inr ⟨p, by rw [e5 a h1]; exact h3, by rw [e1]; exact h4, (hrp _ _).2 (.inl h5), fun h8 => h6 (hfrm p h8), ?_⟩
        rw [if_neg (fun h8 => h1 h8.1), if_neg (fun h8 => by rw [h8.1] at h6; exact h6 h8.2)]; exact h7
  · rw [e1]
    by_cases h1 : a = t
    · subst h1
      rw [e4, hwt, hcnt]; omega
    · rw [e3 a h1, h.wt a ha]
      congr 1
      exact List.countP_congr fun y _ => by simp [rcPut, h1]
  · have h1 := hfrm a ha
    refine (hrf a b).2 ⟨h.un a h1 b, fun h2 => ?_⟩
    rw [h2.1] at ha
    exact hfrt ha
  · rw [e2, List.nodup_append]
    refine ⟨hwnd, ?_, fun x hx y hy e => ?_⟩
    · unfold List.Nodup
      rw [List.pairwise_map]
      exact hXnd.imp fun hab e => hab (by injection e)
    · subst e
      obtain ⟨b, hb, rfl⟩ := List.mem_map.1 hy
      exact ((hXm b).1 hb).2 ((h.wm t b).1 ((hwl _).1 hx).1).1
  · rw [e2, List.mem_append, hwl, h.wm, hrf, List.mem_map]
    constructor
    · rintro (⟨⟨h1, h2⟩, h3⟩ | ⟨c, h1, h2⟩)
      · exact ⟨hmono a b h1, h2, fun h4 => h3 (by rw [h4.1, h4.2])⟩
      · injection h2 with h2 h3
        subst h2 h3
        obtain ⟨h4, h5⟩ := (hXm _).1 h1
        refine ⟨h4, ?_, fun h6 => hft h6.2.symm⟩
        cases h7 : rc c t
        · rfl
        · exact absurd (h.rs _ _ h7) h5
    · rintro ⟨h1, h2, h3⟩
      by_cases h4 : Sent s a b
      · exact .inl ⟨⟨h4, h2⟩, fun h5 => h3 (by injection h5 with h5 h6; exact ⟨h6, h5⟩)⟩
      · right
        by_cases h5 : a = t
        · subst h5
          exact ⟨b, (hXm b).2 ⟨h1, h4⟩, rfl⟩
        · exact absurd (hback a b h5 h1) h4
  · rcases (hrp b a).1 hr with h1 | ⟨rfl, rfl⟩
    · exact hmono a b (h.rs a b h1)
    · exact hmono _ _ ⟨s1, s2, s3⟩
  · rw [if_neg (fun h1 => htst h1.2 h1.1.symm)]; exact h.d0
  · show (if a = t ∧ s.frm t = -1 then dep f + 1 else dep a) < _
    rw [hcountH]
    by_cases h1 : a = t ∧ s.frm t = -1
    · rw [if_pos h1, if_pos h1.2]
      have := h.dn f hfn s2
      omega
    · rw [if_neg h1]
      have : s.frm a ≠ -1 := by
        by_cases h2 : a = t
        · intro h3; exact h1 ⟨h2, by rw [← h2]; exact h3⟩
        · rw [← e5 a h2]; exact hfa
      have := h.dn a ha this
      omega
  · rw [e8, h.snt]
    have hp := sumN_put (g := outN s) (h := outN s') (i := t) htn fun j hj hjt => by unfold outN; rw [e5 j hjt, e1, e3 j hjt]
    have : outN s' t = outN s t + X.length := by
      rw [hX]
      unfold outN setOff
      rw [e1, e4]
      by_cases h1 : s.frm t = -1
      · rw [e6 h1, if_neg (by omega), if_neg (by omega), if_pos h1, if_pos h1]
        simp only [h1, if_true, List.length_append]
        have hfl : ((s.near t).filter fun j => j != f).length = (s.near t).length - 1 := by
          rw [← (h.nd t).erase_eq_filter, List.length_erase_of_mem hnt]
        rw [hfl]
        by_cases h2 : s.wait t - 1 = 0
        · rw [if_pos h2, if_pos ⟨h2, by omega⟩]; simp
        · rw [if_neg h2, if_neg (fun h3 => h2 h3.1)]; simp
      · rw [e7 h1, if_neg h1, if_neg h1, if_neg h1]
        simp only [h1, if_false, List.nil_append]
        by_cases h2 : s.frm t = -2
        · rw [if_pos h2, if_pos h2, if_neg (by omega)]; simp
        · rw [if_neg h2, if_neg h2, if_neg (show ¬ s.wait t = 0 by omega)]
          have h3 : 0 ≤ s.frm t := by
            by_cases h4 : t = st
            · have := h.fs; rw [← h4] at this; exact absurd this h2
            · rcases h.fr t htn h4 with h5 | ⟨p, h5, _⟩
              · exact absurd h5 h1
              · omega
          by_cases h4 : s.wait t - 1 = 0
          · rw [if_pos h4, if_pos ⟨h4, h3⟩]; simp
          · rw [if_neg h4, if_neg (fun h5 => h4 h5.1)]; simp
    omega
end
end Go.Proofs.Ytcmbbioipbdonaa
