/- What holds of logs all the time: all moves; and what follows (plain). -/
import Derived.Test.YtfhmabpalimcnaaLgInv2
set_option linter.unusedVariables false
set_option linter.unusedSimpArgs false
namespace Go.Proofs.Ytfhmabpalimcnaa
open Go.RowKit

theorem EJ.have_1 {n : Nat} {G : Nat → Nat → Int} {s : ES} (h : EJ n G s) (i b : Nat) (hG : G (s.T i) b = i) : EJ n G (haveS i b s) := by
  refine ⟨h.now, h.later, fun j p hp => ?_, h.led, h.lead, h.apart, h.past⟩
  have hp : (upd s.H i (s.H i ||| 2 ^ b) j).testBit p = true := hp
  show G (s.T j) p = j
  by_cases e : j = i
  · subst e
    rw [upd_same, Nat.testBit_or, Bool.or_eq_true] at hp
    rcases hp with hp | hp
    · exact h.have_ j p hp
    · rw [Nat.testBit_two_pow] at hp
      have : b = p := by simpa using hp
      rw [← this]; exact hG
  · rw [upd_ne _ _ e] at hp; exact h.have_ j p hp
section
variable {n : Nat} {G : Nat → Nat → Int} {s s' : LS} {L L' : Nat → List Ent} {ak ak' : Nat → Nat → Nat}
/-- A vote is counted, and, perhaps, one leads. -/
def cntL_ (n c b : Nat) (s : LS) : LS := if (countS n c b s.e).R c = 2 then leadL c (setEL s (countS n c b s.e)) else setEL s (countS n c b s.e)
theorem GI.count (h : GI n G s L ak) (hn : n ≤ 32) {c b : Nat} (hc : c < n) (hb : b < n) (hR : s.e.R c = 1) (hG : G (s.e.T c) b = c)
    (hx : ∀ t k, t < s.e.T c → 0 < k → k ≤ ak t b → trm (L t) (k - 1) = t → May n s ak t k → Cm k (L t) (s.lg c)) : ∃ L' ak', GI n G (cntL_ n c b s) L' ak' ∧ Ext s (cntL_ n c b s) L L' ak ak' := by
  have hj := h.j.count hn c b hb h.H hG
  have h1 := h.have_ (s1 := haveS c b s.e) rfl (h.j.have_1 c b hG) (fun i => by
    show upd s.e.H c _ i < _
    rw [upd_apply]; split
    · exact or_lt (h.H c) hb
    · exact h.H i) (fun _ => hx)
  unfold cntL_
  by_cases hm : n < 2 * pop (s.e.H c ||| 2 ^ b)
  · have e : countS n c b s.e = { haveS c b s.e with R := upd s.e.R c 2, led := s.e.led ++ [(s.e.T c, c)] } := if_pos ⟨hR, hm⟩
    rw [e] at hj ⊢
    rw [if_pos (show upd s.e.R c 2 c = 2 from upd_same ..)]
    obtain ⟨L', ak', a, b⟩ := h1.win hn hc (e' := { haveS c b s.e with R := upd s.e.R c 2, led := s.e.led ++ [(s.e.T c, c)] }) rfl hj hR (by show n < 2 * pop (upd s.e.H c _ c); rw [upd_same]; exact hm)
    exact ⟨L', ak', a, b.T, b.led, b.L, b.ak⟩
  · have e : countS n c b s.e = haveS c b s.e := if_neg (fun h => hm h.2)
    rw [e, if_neg (show ¬ (haveS c b s.e).R c = 2 by show ¬ s.e.R c = 2; omega)]
    exact ⟨L, ak, h1, fun _ => Nat.le_refl _, fun _ h => h, fun _ _ => Cm.refl (Nat.le_refl _), fun _ _ => Nat.le_refl _⟩
theorem GI.know (h : GI n G s L ak) (i t : Nat) : GI n G (setEL s (knowS i t s.e)) L ak ∧ Ext s (setEL s (knowS i t s.e)) L L ak ak := by
  have hj := h.j.knowS_ i t
  unfold knowS at hj ⊢
  split
  · rename_i hlt
    rw [if_pos hlt] at hj
    refine h.quiet (s' := setEL s (setE i t 0 (-1) s.e)) hj (fun p => ?_) (fun p hp => ?_) (fun p => ?_) rfl (fun p hp => ?_) (fun c hc p hp => ?_) rfl (fun _ => .inl rfl) rfl rfl
    · show upd s.e.H i 0 p < _
      rw [upd_apply]; split
      · exact Nat.two_pow_pos n
      · exact h.H p
    · have hp : upd s.e.R i 0 p ≠ 0 := hp
      show 1 ≤ upd s.e.T i t p
      by_cases e : p = i
      · rw [e, upd_same]; omega
      · rw [upd_ne _ _ e] at hp ⊢; exact h.t1 p hp
    · show s.e.T p ≤ upd s.e.T i t p
      rw [upd_apply]; split
      · rename_i e; rw [e]; omega
      · exact Nat.le_refl _
    · have hp : upd s.e.R i 0 p = 2 := hp
      show s.e.R p = 2 ∧ upd s.e.T i t p = s.e.T p
      by_cases e : p = i
      · rw [e, upd_same] at hp; cases hp
      · rw [upd_ne _ _ e] at hp ⊢; exact ⟨hp, rfl⟩
    · have hc : upd s.e.R i 0 c = 1 := hc
      have hp : (upd s.e.H i 0 c).testBit p = true := hp
      show s.e.R c = 1 ∧ upd s.e.T i t c = s.e.T c ∧ _
      by_cases e : c = i
      · rw [e, upd_same] at hc; cases hc
      · rw [upd_ne _ _ e] at hc hp ⊢; exact ⟨hc, rfl, hp⟩
  · exact ⟨h, Ext.refl ..⟩
theorem setEL_setEL (s : LS) (a b : ES) : setEL (setEL s a) b = setEL s b := rfl
theorem setEL_e (s : LS) (a : ES) : (setEL s a).e = a := rfl
theorem GI.follow (h : GI n G s L ak) (i : Nat) : GI n G (setEL s { s.e with R := upd s.e.R i 0 }) L ak ∧ Ext s (setEL s { s.e with R := upd s.e.R i 0 }) L L ak ak := by
  refine h.quiet (s' := setEL s { s.e with R := upd s.e.R i 0 }) (h.j.follow i) h.H (fun p hp => ?_) (fun p => Nat.le_refl _) rfl (fun p hp => ?_) (fun c hc p hp => ?_) rfl (fun _ => .inl rfl) rfl rfl
  · have hp : upd s.e.R i 0 p ≠ 0 := hp
    by_cases e : p = i
    · rw [e, upd_same] at hp; exact absurd rfl hp
    · rw [upd_ne _ _ e] at hp; exact h.t1 p hp
  · have hp : upd s.e.R i 0 p = 2 := hp
    by_cases e : p = i
    · rw [e, upd_same] at hp; cases hp
    · rw [upd_ne _ _ e] at hp; exact ⟨hp, rfl⟩
  · have hc : upd s.e.R i 0 c = 1 := hc
    by_cases e : c = i
    · rw [e, upd_same] at hc; cases hc
    · rw [upd_ne _ _ e] at hc; exact ⟨hc, rfl, hp⟩
theorem GI.crash (h : GI n G s L ak) (i : Nat) : GI n G (crashL i s) L ak ∧ Ext s (crashL i s) L L ak ak := by
  refine h.quiet (s' := crashL i s) (h.j.crash i) (fun p => ?_) (fun p hp => ?_) (fun p => Nat.le_refl _) rfl (fun p hp => ?_) (fun c hc p hp => ?_) rfl (fun p => ?_) rfl rfl
  · show upd s.e.H i 0 p < _
    rw [upd_apply]; split
    · exact Nat.two_pow_pos n
    · exact h.H p
  · have hp : upd s.e.R i 0 p ≠ 0 := hp
    by_cases e : p = i
    · rw [e, upd_same] at hp; exact absurd rfl hp
    · rw [upd_ne _ _ e] at hp; exact h.t1 p hp
  · have hp : upd s.e.R i 0 p = 2 := hp
    by_cases e : p = i
    · rw [e, upd_same] at hp; cases hp
    · rw [upd_ne _ _ e] at hp; exact ⟨hp, rfl⟩
  · have hc : upd s.e.R i 0 c = 1 := hc
    have hp : (upd s.e.H i 0 c).testBit p = true := hp
    by_cases e : c = i
    · rw [e, upd_same] at hc; cases hc
    · rw [upd_ne _ _ e] at hc hp; exact ⟨hc, rfl, hp⟩
  · show upd s.su i 0 p = s.su p ∨ upd s.su i 0 p = 0
    rw [upd_apply]; split
    · exact .inr rfl
    · exact .inl rfl
theorem GI.stand (h : GI n G s L ak) (hn : n ≤ 32) {i : Nat} (hi : i < n) : ∃ G' L' ak', GI n G' (standL n i s).2 L' ak' ∧ Ext s (standL n i s).2 L L' ak ak' := by
  by_cases hR : s.e.R i = 2
  · have e : standS n i s.e = (7, s.e) := if_pos hR
    have e2 : standL n i s = (7, setEL s s.e) := by unfold standL; rw [e, if_neg (by simp)]
    rw [e2]
    exact ⟨G, L, ak, h, Ext.refl ..⟩
  · have e : standS n i s.e = (0, countS n i i (setE i (s.e.T i + 1) 1 i s.e)) := if_neg hR
    obtain ⟨h1, h1e⟩ := h.quiet (s' := setEL s (setE i (s.e.T i + 1) 1 i s.e)) (h.j.stand i) (fun p => by
        show upd s.e.H i 0 p < _
        rw [upd_apply]; split
        · exact Nat.two_pow_pos n
        · exact h.H p) (fun p hp => by
        have hp : upd s.e.R i 1 p ≠ 0 := hp
        show 1 ≤ upd s.e.T i _ p
        by_cases e : p = i
        · rw [e, upd_same]; omega
        · rw [upd_ne _ _ e] at hp ⊢; exact h.t1 p hp) (fun p => by
        show s.e.T p ≤ upd s.e.T i _ p
        rw [upd_apply]; split
        · rename_i e; rw [e]; omega
        · exact Nat.le_refl _) rfl (fun p hp => by
        have hp : upd s.e.R i 1 p = 2 := hp
        show s.e.R p = 2 ∧ upd s.e.T i _ p = s.e.T p
        by_cases e : p = i
        · rw [e, upd_same] at hp; cases hp
        · rw [upd_ne _ _ e] at hp ⊢; exact ⟨hp, rfl⟩) (fun c hc p hp => by
        have hc : upd s.e.R i 1 c = 1 := hc
        have hp : (upd s.e.H i 0 c).testBit p = true := hp
        show s.e.R c = 1 ∧ upd s.e.T i _ c = s.e.T c ∧ _
        by_cases e : c = i
        · rw [e, upd_same] at hp; simp at hp
        · rw [upd_ne _ _ e] at hc hp ⊢; exact ⟨hc, rfl, hp⟩) rfl (fun _ => .inl rfl) rfl rfl
    obtain ⟨L', ak', a, b⟩ := h1.count hn hi hi (show upd s.e.R i 1 i = 1 from upd_same ..) (by
      show gset G _ _ _ (upd s.e.T i _ i) i = i
      rw [upd_same, gset, if_pos ⟨rfl, rfl⟩]) (fun t k _ h2 h3 h4 h5 => h1.P i t k h2 h3 h4 h5)
    have e2 : (standL n i s).2 = cntL_ n i i (setEL s (setE i (s.e.T i + 1) 1 i s.e)) := by
      unfold standL cntL_
      rw [e]
      simp only [true_and, setEL_e]
      split
      · rename_i hc; exact Eq.trans rfl (if_pos hc).symm
      · rename_i hc; exact Eq.trans rfl (if_neg hc).symm
    rw [e2]
    exact ⟨_, L', ak', a, h1e.trans b⟩
theorem voteL_e (n i t : Nat) (s : LS) (h : ¬ (s.e.R t ≠ 2 ∧ (voteS n i t (goodL (s.lg t) (s.lg i)) s.e).2.R t = 2)) : (voteL n i t s).2 = setEL s (voteS n i t (goodL (s.lg t) (s.lg i)) s.e).2 := by unfold voteL; rw [if_neg h]
theorem GI.vote (h : GI n G s L ak) (hn : n ≤ 32) {i t : Nat} (hi : i < n) (ht : t < n) {B : Nat} (hI : EI n B s.e) : ∃ G' L' ak', GI n G' (voteL n i t s).2 L' ak' ∧ Ext s (voteL n i t s).2 L L' ak ak' := by
  obtain ⟨g, hg⟩ : ∃ g, goodL (s.lg t) (s.lg i) = g := ⟨_, rfl⟩
  by_cases hR : s.e.R t = 1
  case neg =>
    have e : voteS n i t g s.e = (5, s.e) := if_pos hR
    rw [voteL_e n i t s (by rw [hg, e]; rintro ⟨a, b⟩; exact a b), hg, e]
    exact ⟨G, L, ak, h, Ext.refl ..⟩
  obtain ⟨hk, hke⟩ := h.know i (s.e.T t)
  generalize hke0 : knowS i (s.e.T t) s.e = k at hk hke
  by_cases hlt : k.T t < k.T i
  · have e : voteS n i t g s.e = (8, knowS t (k.T i) k) := by unfold voteS; rw [if_neg (by simpa using hR), hke0, if_pos hlt]
    obtain ⟨h2, h2e⟩ := hk.know t (k.T i)
    have hnot : (knowS t (k.T i) k).R t ≠ 2 := by unfold knowS; rw [if_pos hlt]; show upd k.R t 0 t ≠ 2; rw [upd_same]; decide
    rw [voteL_e n i t s (by rw [hg, e]; rintro ⟨_, b⟩; exact hnot b), hg, e]
    exact ⟨G, L, ak, h2, hke.trans h2e⟩
  have hkR : k.R t = 1 ∨ (k.R t = 0 ∧ i = t) := by
    rw [← hke0]; unfold knowS; split
    · show upd s.e.R i 0 t = 1 ∨ (upd s.e.R i 0 t = 0 ∧ i = t)
      by_cases e : t = i
      · rw [e, upd_same]; exact .inr ⟨rfl, rfl⟩
      · rw [upd_ne _ _ e]; exact .inl hR
    · exact .inl hR
  by_cases hh : (0 ≤ k.V i ∧ k.V i ≠ t) ∨ g = false
  · have e : voteS n i t g s.e = (7, k) := by unfold voteS; rw [if_neg (by simpa using hR), hke0, if_neg hlt, if_pos hh]
    rw [voteL_e n i t s (by rw [hg, e]; rintro ⟨_, b⟩; have b : k.R t = 2 := b; omega), hg, e]
    exact ⟨G, L, ak, hk, hke⟩
  · have hgt : g = true := by
      cases g
      · exact absurd (.inr rfl) hh
      · rfl
    have hkI := hI.know i (hI.T t)
    rw [hke0] at hkI
    have hV : k.V i = -1 ∨ k.V i = t := by
      have := (hkI.V i).1
      by_cases e : k.V i = t
      · exact .inr e
      · by_cases e2 : 0 ≤ k.V i
        · exact absurd (.inl ⟨e2, e⟩) hh
        · exact .inl (by omega)
    have hT : k.T t = k.T i := by
      have a := know_T i (s.e.T t) t s.e
      have b := know_T i (s.e.T t) i s.e
      rw [hke0] at a b
      split at a <;> split at b <;> omega
    by_cases hit : i = t
    · -- one's own vote: the term is its own, so nothing was learned
      have hkk : k = s.e := by
        rw [← hke0, hit]; unfold knowS; rw [if_neg (Nat.lt_irrefl _)]
      have hkR1 : k.R t = 1 := by rw [hkk]; exact hR
      have e : voteS n i t g s.e = (0, countS n t i { k with V := upd k.V i t }) := by unfold voteS; rw [if_neg (by simpa using hR), hke0, if_neg hlt, if_neg hh]
      obtain ⟨h2, h2e⟩ := hk.quiet (s' := setEL s { k with V := upd k.V i t }) (hk.j.vote i t hV) hk.H hk.t1 (fun _ => Nat.le_refl _) rfl (fun p hp => ⟨hp, rfl⟩) (fun c hc p hp => ⟨hc, rfl, hp⟩) rfl (fun _ => .inl rfl) rfl rfl
      obtain ⟨L', ak', a, b⟩ := h2.count hn ht hi hkR1 (by show gset G _ _ _ (k.T t) i = t; rw [hT, setEL_e, gset, if_pos ⟨rfl, rfl⟩]) (fun x k' _ a2 a3 a4 a5 => h2.good (by rw [hgt] at hg; exact hg) a2 a3 a4 a5)
      have e2 : (voteL n i t s).2 = cntL_ n t i (setEL s { k with V := upd k.V i t }) := by
        unfold voteL cntL_
        rw [hg, e, hR]
        simp only [setEL_e]
        split
        · rename_i hc; exact Eq.trans rfl (if_pos hc.2).symm
        · rename_i hc; exact Eq.trans rfl (if_neg (fun h => hc ⟨by decide, h⟩)).symm
      rw [e2]
      exact ⟨_, L', ak', a, (hke.trans h2e).trans b⟩
    · have hkR1 : k.R t = 1 := hkR.resolve_right fun h => hit h.2
      have e : voteS n i t g s.e = (0, countS n t i { k with V := upd k.V i t }) := by unfold voteS; rw [if_neg (by simpa using hR), hke0, if_neg hlt, if_neg hh]
      obtain ⟨h2, h2e⟩ := hk.quiet (s' := setEL s { k with V := upd k.V i t }) (hk.j.vote i t hV) hk.H hk.t1 (fun _ => Nat.le_refl _) rfl (fun p hp => ⟨hp, rfl⟩) (fun c hc p hp => ⟨hc, rfl, hp⟩) rfl (fun _ => .inl rfl) rfl rfl
      obtain ⟨L', ak', a, b⟩ := h2.count hn ht hi hkR1 (by show gset G _ _ _ (k.T t) i = t; rw [hT, setEL_e, gset, if_pos ⟨rfl, rfl⟩]) (fun x k' _ a2 a3 a4 a5 => h2.good (by rw [hgt] at hg; exact hg) a2 a3 a4 a5)
      have e2 : (voteL n i t s).2 = cntL_ n t i (setEL s { k with V := upd k.V i t }) := by
        unfold voteL cntL_
        rw [hg, e, hR]
        simp only [setEL_e]
        split
        · rename_i hc; exact Eq.trans rfl (if_pos hc.2).symm
        · rename_i hc; exact Eq.trans rfl (if_neg (fun h => hc ⟨by decide, h⟩)).symm
      rw [e2]
      exact ⟨_, L', ak', a, (hke.trans h2e).trans b⟩
theorem GI.send (h : GI n G s L ak) {i t : Nat} (hit : i ≠ t) : ∃ G' L' ak', GI n G' (sendL i t s).2 L' ak' ∧ Ext s (sendL i t s).2 L L' ak ak' := by
  by_cases hR : s.e.R i = 2
  case neg =>
    have e : beatS i t s.e = (5, s.e) := if_pos hR
    have e2 : (sendL i t s).2 = setEL s s.e := by unfold sendL; rw [e, if_pos (by simp)]
    rw [e2]; exact ⟨G, L, ak, h, Ext.refl ..⟩
  by_cases hlt : s.e.T i < s.e.T t
  · have e : beatS i t s.e = (8, knowS i (s.e.T t) s.e) := by unfold beatS; rw [if_neg (by simpa using hR), if_pos hlt]
    have e2 : (sendL i t s).2 = setEL s (knowS i (s.e.T t) s.e) := by unfold sendL; rw [e, if_pos (by simp)]
    obtain ⟨h2, h2e⟩ := h.know i (s.e.T t)
    rw [e2]; exact ⟨G, L, ak, h2, h2e⟩
  · have e : beatS i t s.e = (0, { knowS t (s.e.T i) s.e with R := upd (knowS t (s.e.T i) s.e).R t 0 }) := by unfold beatS; rw [if_neg (by simpa using hR), if_neg hlt]
    obtain ⟨h2, h2e⟩ := h.know t (s.e.T i)
    obtain ⟨h3, h3e⟩ := h2.follow t
    have hTi : (knowS t (s.e.T i) s.e).T i = s.e.T i := by
      have a := know_T t (s.e.T i) i s.e
      rw [if_neg (fun h => hit h.1)] at a; exact a
    have hTt : (knowS t (s.e.T i) s.e).T t = s.e.T i := by
      have a := know_T t (s.e.T i) t s.e
      split at a <;> omega
    have hRi : (knowS t (s.e.T i) s.e).R i = 2 := by rw [know_Rne _ _ _ hit]; exact hR
    simp only [setEL_e, setEL_setEL] at h3 h3e
    generalize hk : knowS t (s.e.T i) s.e = k at h2 h2e h3 h3e e hTi hTt hRi
    by_cases hm : missB (s.lg i) (s.lg t) (s.nx i t) = true
    · have e2 : (sendL i t s).2 = backL i t (setEL s { k with R := upd k.R t 0 }) := by unfold sendL; rw [e, if_neg (by simp), if_pos hm]
      rw [e2]
      have hx := h2e.trans h3e
      exact ⟨G, L, ak, h3.back i t, hx.T, hx.led, hx.L, hx.ak⟩
    · have e2 : (sendL i t s).2 = tellL i t (setEL s { k with R := upd k.R t 0 }) := by unfold sendL; rw [e, if_neg (by simp), if_neg hm]
      obtain ⟨ak', a, b⟩ := h3.tell (i := i) (t := t) (by show upd k.R t 0 i = 2; rw [upd_ne _ _ hit]; exact hRi) hit (by show k.T t = k.T i; rw [hTi, hTt]) (by show upd k.R t 0 t = 0; rw [upd_same]) (Bool.eq_false_iff.2 hm)
      rw [e2]
      exact ⟨G, L, ak', a, (h2e.trans h3e).trans b⟩
theorem GI.step (h : GI n G s L ak) (hn : n ≤ 32) {B : Nat} (hB : LB n B s) {k f t v : Int} : ∃ G' L' ak', GI n G' (lgStep n k f t v s).2 L' ak' ∧ Ext s (lgStep n k f t v s).2 L L' ak ak' := by
  have same : ∃ G' L' ak', GI n G' s L' ak' ∧ Ext s s L L' ak ak' := ⟨G, L, ak, h, Ext.refl ..⟩
  unfold lgStep
  split
  · exact same
  split
  · exact same
  rename_i hk hb
  have hf : 0 ≤ f ∧ f < n := by
    cases hh : (decide (0 ≤ f) && decide (f < (n : Int)))
    · simp [elBad, hh] at hb
    · simpa using hh
  have ht : k = 2 ∨ k = 3 → 0 ≤ t ∧ t < n ∧ f ≠ t := by
    intro hk
    cases hh : (decide (0 ≤ t) && decide (t < (n : Int)))
    · rcases hk with rfl | rfl <;> simp [elBad, hh] at hb
    · have hft : f ≠ t := by
        rintro rfl
        rcases hk with rfl | rfl <;> simp [elBad] at hb
      have : 0 ≤ t ∧ t < n := by simpa using hh
      exact ⟨this.1, this.2, hft⟩
  split
  · exact h.stand hn (by omega)
  split
  · have := ht (.inl (by assumption))
    exact h.vote hn (by omega) (by omega) hB.e
  split
  · have := ht (.inr (by assumption))
    exact h.send (by omega)
  split
  · unfold addL
    split
    · exact same
    split
    · exact same
    · rename_i hR _
      obtain ⟨L', ak', a, b⟩ := h.push hn (i := f.toNat) (by simpa using hR) v
      exact ⟨G, L', ak', a, b⟩
  split
  · unfold commitL
    split
    · exact same
    rename_i hR
    split
    · rename_i k hk
      obtain ⟨h1, h2, h3⟩ := findL_some hk
      have := h.sure hn (i := f.toNat) (by simpa using hR) h1 (by omega) h3
      exact ⟨G, L, ak, this, fun _ => Nat.le_refl _, fun _ h => h, fun _ _ => Cm.refl (Nat.le_refl _), fun _ _ => Nat.le_refl _⟩
    · exact same
  · obtain ⟨a, b⟩ := h.crash f.toNat
    exact ⟨G, L, ak, a, b⟩
end
/-- It holds at each place; what was at q goes on at any later one. -/
theorem GI.all (n : Nat) (hn : n ≤ 32) (M : Mv) : ∀ q, ∃ G L ak, GI n G (lgE n M q) L ak
  | 0 => by
    obtain ⟨G, hG⟩ := EJ.all_ n hn M 0
    exact ⟨G, fun _ => [], fun _ _ => 0, hG, fun _ => Nat.two_pow_pos n, fun x hx => (by cases hx), fun i hi => absurd rfl hi, fun i hi => (by cases hi), fun i hi => (by cases hi), fun i k hk => (by cases hk), fun t ht => (by obtain ⟨x, hx, _⟩ := ht; cases hx),
      fun i => ⟨fun j k _ hk => (by cases hk), fun k hk => (by cases hk), fun k hk => (by cases hk)⟩, fun t ht => (by obtain ⟨x, hx, _⟩ := ht; cases hx), fun t p hp => (by cases hp), fun p t k h1 h2 => (by have h2 : k ≤ 0 := h2; omega), fun t u k h1 => (by obtain ⟨x, hx, _⟩ := h1; cases hx), fun c hc => (by cases hc), fun i => .inl rfl⟩
  | q + 1 => by
    obtain ⟨G, L, ak, h⟩ := GI.all n hn M q
    obtain ⟨G', L', ak', h', _⟩ := h.step hn (LB.all n M q) (k := M.k q) (f := M.f q) (t := M.t q) (v := M.v q)
    exact ⟨G', L', ak', h'⟩
theorem GI.later {n : Nat} (hn : n ≤ 32) {M : Mv} {q : Nat} {G : Nat → Nat → Int} {L : Nat → List Ent} {ak : Nat → Nat → Nat} (h : GI n G (lgE n M q) L ak) : ∀ d, ∃ G' L' ak', GI n G' (lgE n M (q + d)) L' ak' ∧ Ext (lgE n M q) (lgE n M (q + d)) L L' ak ak'
  | 0 => ⟨G, L, ak, h, Ext.refl ..⟩
  | d + 1 => by
    obtain ⟨G1, L1, ak1, h1, e1⟩ := GI.later hn h d
    obtain ⟨G', L', ak', h', e'⟩ := h1.step hn (LB.all n M (q + d)) (k := M.k (q + d)) (f := M.f (q + d)) (t := M.t (q + d)) (v := M.v (q + d))
    exact ⟨G', L', ak', h', e1.trans e'⟩

section
variable {n : Nat} {M : Mv}
theorem lg_match (hn : n ≤ 32) (q : Nat) {i j k : Nat} (hi : k < ((lgE n M q).lg i).length) (hj : k < ((lgE n M q).lg j).length) (he : trm ((lgE n M q).lg i) k = trm ((lgE n M q).lg j) k) : Cm (k + 1) ((lgE n M q).lg i) ((lgE n M q).lg j) := by
  obtain ⟨G, L, ak, h⟩ := GI.all n hn M q
  obtain ⟨_, a⟩ := h.pf i k hi
  obtain ⟨_, b⟩ := h.pf j k hj
  rw [he] at a
  exact a.trans b.symm
theorem lg_terms (hn : n ≤ 32) (q i : Nat) : Srt ((lgE n M q).e.T i) ((lgE n M q).lg i) := by
  obtain ⟨G, L, ak, h⟩ := GI.all n hn M q
  exact h.so i
theorem lg_sulen (hn : n ≤ 32) (q i : Nat) : (lgE n M q).su i ≤ ((lgE n M q).lg i).length := by
  obtain ⟨G, L, ak, h⟩ := GI.all n hn M q
  rcases h.S i with e | ⟨t, k, _, _, _, _, _, _, h7⟩
  · omega
  · exact h7.2.1
/-- What was sure is as what is. -/
theorem lg_sure (hn : n ≤ 32) {q m : Nat} (hqm : q ≤ m) (i j : Nat) : Cm (min ((lgE n M q).su i) ((lgE n M m).su j)) ((lgE n M q).lg i) ((lgE n M m).lg j) := by
  obtain ⟨G, L, ak, h⟩ := GI.all n hn M q
  obtain ⟨G', L', ak', h', e⟩ := GI.later hn h (m - q)
  rw [Nat.add_sub_cancel' hqm] at h' e
  rcases h.S i with e0 | ⟨t, k, a1, a2, a3, a4, a5, a6, a7⟩
  · rw [e0, Nat.zero_min]; exact Cm.zero
  rcases h'.S j with e0 | ⟨u, p, b1, b2, b3, b4, b5, b6, b7⟩
  · rw [e0, Nat.min_zero]; exact Cm.zero
  by_cases z : (lgE n M q).su i = 0
  · rw [z, Nat.zero_min]; exact Cm.zero
  by_cases z2 : (lgE n M m).su j = 0
  · rw [z2, Nat.min_zero]; exact Cm.zero
  have c1 := e.led t a1
  have c2 := e.L t a1
  have c3 := a6.mono e.ak
  have c4 : trm (L' t) (k - 1) = t := by rw [← c2.trm (by omega)]; exact a5
  have c5 : Cm ((lgE n M q).su i) (L' t) ((lgE n M q).lg i) := (c2.le (by omega)).symm.trans a7
  have c6 : k ≤ (L' t).length := Nat.le_trans a4 c2.2.1
  rcases Nat.lt_trichotomy t u with hl | hl | hl
  · have := h'.I t u k c1 b1 hl (by omega) c6 c4 c3.may
    exact ((c5.symm.le (Nat.min_le_left _ _)).trans (this.le (Nat.le_trans (Nat.min_le_left _ _) a3))).trans (b7.le (Nat.min_le_right _ _))
  · subst hl
    exact (c5.symm.le (Nat.min_le_left _ _)).trans (b7.le (Nat.min_le_right _ _))
  · have := h'.I u t p b1 c1 hl (by omega) b4 b5 b6.may
    exact (c5.symm.le (Nat.min_le_left _ _)).trans ((this.symm.le (Nat.le_trans (Nat.min_le_right _ _) b3)).trans (b7.le (Nat.min_le_right _ _)))
/-- Who leads in no lesser term has what was sure. -/
theorem lg_lead (hn : n ≤ 32) {q m : Nat} (hqm : q ≤ m) (i b : Nat) (hb : (lgE n M m).e.R b = 2) (hT : (lgE n M m).e.T i ≤ (lgE n M m).e.T b) : Cm ((lgE n M q).su i) ((lgE n M q).lg i) ((lgE n M m).lg b) := by
  obtain ⟨G, L, ak, h⟩ := GI.all n hn M q
  obtain ⟨G', L', ak', h', e⟩ := GI.later hn h (m - q)
  rw [Nat.add_sub_cancel' hqm] at h' e
  rcases h.S i with e0 | ⟨t, k, a1, a2, a3, a4, a5, a6, a7⟩
  · rw [e0]; exact Cm.zero
  by_cases z : (lgE n M q).su i = 0
  · rw [z]; exact Cm.zero
  have c1 := e.led t a1
  have c2 := e.L t a1
  have c3 := a6.mono e.ak
  have c4 : trm (L' t) (k - 1) = t := by rw [← c2.trm (by omega)]; exact a5
  have c5 : Cm ((lgE n M q).su i) (L' t) ((lgE n M q).lg i) := (c2.le (by omega)).symm.trans a7
  have c6 : k ≤ (L' t).length := Nat.le_trans a4 c2.2.1
  obtain ⟨_, hLb, _⟩ := h'.lead b hb
  have htu : t ≤ (lgE n M m).e.T b := Nat.le_trans (Nat.le_trans a2 (e.T i)) hT
  rcases Nat.lt_or_ge t ((lgE n M m).e.T b) with hl | hl
  · have := h'.I t _ k c1 (h'.ledOf hb) hl (by omega) c6 c4 c3.may
    rw [hLb] at this
    exact c5.symm.trans (this.le a3)
  · have : t = (lgE n M m).e.T b := by omega
    rw [this, hLb] at c5
    exact c5.symm
theorem lgE_congr {M' : Mv} {q : Nat} (h : ∀ j, j < q → M.k j = M'.k j ∧ M.f j = M'.f j ∧ M.t j = M'.t j ∧ M.v j = M'.v j) : ∀ j, j ≤ q → lgE n M j = lgE n M' j := by
  intro j
  induction j with
  | zero => intro _; rfl
  | succ j ih =>
    intro hj
    obtain ⟨h1, h2, h3, h4⟩ := h j (by omega)
    rw [lgE, lgE, ih (by omega), h1, h2, h3, h4]
end
end Go.Proofs.Ytfhmabpalimcnaa
