/- One writes and then reads, and few copies failed: what it leaves. -/
import Derived.Test.YtoakgoigamigjaaCoMost
set_option linter.unusedVariables false
set_option linter.unusedSimpArgs false
namespace Go.Proofs.Ytoakgoigamigjaa
open Go.RowKit

def OpsOk (r : Nat) (v : Int) (l : List Opr) : Prop :=
  match r with
  | 0 => l = []
  | 1 => ∃ b e, l = [⟨0, b, e, true, v⟩]
  | _ => ∃ b e b' e', l = [⟨0, b, e, true, v⟩, ⟨0, b', e', false, v⟩]
def Six (n : Nat) (s : CS) : Prop := ∃ Q, Q < 2 ^ n ∧ n < 2 * pop Q ∧ ∀ a, Q.testBit a = true → s.S a = 6
def Dat (v : Int) (s : CS) : Prop := ∀ a, s.S a = 0 ∨ (s.S a = 6 ∧ s.V a = v)
structure Rest (n F : Nat) (v : Int) (r : Nat) (s : CS) : Prop where
  fl : s.fl = F
  part : (s.cl 0).part = 0
  ops : OpsOk r v s.ops
  dat : Dat v s
  zero : r = 0 → ∀ a, s.S a = 0
  six : r ≠ 0 → Six n s
structure Wk (n F : Nat) (v : Int) (r p i : Nat) (s : CS) : Prop where
  fl : s.fl = F
  part : (s.cl 0).part = 1 ∨ (s.cl 0).part = 2
  back : p + 1 ≤ (s.cl 0).part
  ops : OpsOk r v s.ops
  wr : (s.cl 0).wr = decide (r = 0)
  val : r = 0 → (s.cl 0).val = v
  dat : Dat v s
  six : r ≠ 0 → Six n s
  rch : (s.cl 0).rch < 2 ^ n
  many : (s.cl 0).many = pop (s.cl 0).rch
  few : 2 * (s.cl 0).many ≤ n
  p1 : (s.cl 0).part = 1 → ((s.cl 0).bs = 0 ∨ ((s.cl 0).bs = 6 ∧ (s.cl 0).bv = v)) ∧ (∀ a, (s.cl 0).rch.testBit a = true → s.S a ≤ (s.cl 0).bs) ∧ (r = 0 → (s.cl 0).bs = 0 ∧ ∀ a, s.S a = 0)
  p2 : (s.cl 0).part = 2 → (s.cl 0).bs = 6 ∧ (s.cl 0).bv = v ∧ ∀ a, (s.cl 0).rch.testBit a = true → s.S a = 6
  cov : (s.cl 0).part = p + 1 → ∀ j, j < i → j < n → F.testBit j = false → (s.cl 0).rch.testBit j = true
def Inn (n F : Nat) (v : Int) (r p i : Nat) (s : CS) : Prop := Rest n F v (r + 1) s ∨ Wk n F v r p i s

theorem inn_open {n F q : Nat} {v u : Int} {r : Nat} {s : CS} (hv : 0 ≤ v) (hr : r < 2) (hu : u = if r = 0 then v else -1) (h : Rest n F v r s) : Inn n F v r 0 0 (doS n 1 0 0 u q s).2 := by
  have e0 : doS n 1 0 0 u q s = if 0 < (s.cl 0).part then (7, s) else (0, setC s 0 (openC q u)) := rfl
  rw [e0, if_neg (by rw [h.part]; omega)]
  refine .inr ⟨h.fl, .inl rfl, Nat.le_refl _, h.ops, ?_, ?_, h.dat, h.six, Nat.two_pow_pos n, pop_zero.symm, Nat.zero_le _, ?_, ?_, ?_⟩
  · show decide (0 ≤ u) = decide (r = 0)
    by_cases e : r = 0
    · rw [if_pos e] at hu; rw [decide_eq_true e, decide_eq_true (by omega)]
    · rw [if_neg e] at hu; rw [decide_eq_false e, decide_eq_false (by omega)]
  · intro e
    rw [if_pos e] at hu
    show max u 0 = v
    omega
  · intro _
    refine ⟨.inl rfl, fun a ha => ?_, fun e => ⟨rfl, h.zero e⟩⟩
    have : (0 : Nat).testBit a = true := ha
    simp at this
  · intro hh; exact absurd (show (1 : Nat) = 2 from hh) (by omega)
  · intro _ j hj; omega
theorem rest_reach {n F q t : Nat} {v : Int} {r : Nat} {s : CS} (h : Rest n F v r s) : Rest n F v r (doS n 2 0 t 0 q s).2 := by
  unfold doS
  rw [if_neg (by omega)]
  split
  · exact h
  rw [if_neg (by omega), if_neg (by omega)]
  rw [if_pos (by exact h.part)]
  exact h
theorem do_reach0 {n q t : Nat} {s : CS} (ht : t < n) (hp : (s.cl 0).part ≠ 0) : (doS n 2 0 t 0 q s).2 = if (s.cl 0).rch.testBit t = true then s else if s.fl.testBit t = true then s else reachS n 0 t q s := by
  have hc : copiedB n t = true := by unfold copiedB; simp; omega
  unfold doS
  rw [if_neg (by omega), if_neg (fun hh => by
    rcases hh with hh | hh
    · exact absurd hh.2 (by decide)
    · rw [hc] at hh; exact absurd hh.2 (by decide)), if_neg (by omega), if_neg (by omega)]
  show (if (s.cl 0).part = 0 then _ else _ : Int × CS).2 = _
  rw [if_neg hp]
  show (if (s.cl 0).rch.testBit t = true then _ else _ : Int × CS).2 = _
  split
  · rfl
  · show (if s.fl.testBit t = true then _ else _ : Int × CS).2 = _
    split <;> rfl
theorem inn_reach {n F q i : Nat} {v : Int} {r p : Nat} {s : CS} (hn : n ≤ 32) (hr : r < 2) (hi : i < n) (h : Inn n F v r p i s) : Inn n F v r p (i + 1) (doS n 2 0 i 0 q s).2 := by
  rcases h with h | h
  · exact .inl (rest_reach h)
  have hp0 : (s.cl 0).part ≠ 0 := by have := h.part; omega
  rw [do_reach0 hi hp0]
  have keep : (F.testBit i = true ∨ (s.cl 0).rch.testBit i = true) → Wk n F v r p (i + 1) s := by
    intro hh
    refine { h with cov := ?_ }
    intro e j hj hjn hf
    by_cases e2 : j = i
    · subst e2
      rcases hh with hh | hh
      · rw [hh] at hf; cases hf
      · exact hh
    · exact h.cov e j (by omega) hjn hf
  split
  · rename_i hx; exact .inr (keep (.inr hx))
  rename_i hx
  split
  · rename_i hy; exact .inr (keep (.inl (by rw [← h.fl]; exact hy)))
  rename_i hy
  have hrb : (s.cl 0).rch.testBit i = false := by simpa using hx
  clear keep hx hy
  obtain ⟨b1, b2, b3, b4, b5, b6, b7, b8, b9⟩ := r2_shape 0 i (r1S 0 i s)
  rw [r1_cl] at b2 b3 b4 b5 b6 b7
  have c1 : (r2S 0 i (r1S 0 i s)).fl = F := b9.trans h.fl
  have c3 : ((r2S 0 i (r1S 0 i s)).cl 0).wr = decide (r = 0) := b3.trans h.wr
  have c4 : r = 0 → ((r2S 0 i (r1S 0 i s)).cl 0).val = v := fun e => b4.trans (h.val e)
  have c5 : ((r2S 0 i (r1S 0 i s)).cl 0).part = (s.cl 0).part := b5
  have c8 : OpsOk r v (r2S 0 i (r1S 0 i s)).ops := by rw [b8]; exact h.ops
  have hrl : ((r2S 0 i (r1S 0 i s)).cl 0).rch < 2 ^ n := by rw [b6]; exact or_lt h.rch hi
  have hm : ((r2S 0 i (r1S 0 i s)).cl 0).many = pop ((r2S 0 i (r1S 0 i s)).cl 0).rch := by
    rw [b7, b6]
    show _ + 1 = _
    rw [pop_or (by omega) hrb, h.many]
  have hcov : (s.cl 0).part = p + 1 → ∀ j, j < i + 1 → j < n → F.testBit j = false → ((r2S 0 i (r1S 0 i s)).cl 0).rch.testBit j = true := by
    intro e j hj hjn hf
    rw [b6, or_bitC]
    by_cases e2 : j = i
    · exact .inr e2
    · exact .inl (h.cov e j (by omega) hjn hf)
  -- what copies and the client have
  have hd : Dat v (r2S 0 i (r1S 0 i s)) ∧ (∀ a, s.S a = 6 → (r2S 0 i (r1S 0 i s)).S a = 6) ∧
      ((s.cl 0).part = 1 → (((r2S 0 i (r1S 0 i s)).cl 0).bs = 0 ∨ (((r2S 0 i (r1S 0 i s)).cl 0).bs = 6 ∧ ((r2S 0 i (r1S 0 i s)).cl 0).bv = v)) ∧ (∀ a, ((r2S 0 i (r1S 0 i s)).cl 0).rch.testBit a = true → (r2S 0 i (r1S 0 i s)).S a ≤ ((r2S 0 i (r1S 0 i s)).cl 0).bs) ∧ (r = 0 → ((r2S 0 i (r1S 0 i s)).cl 0).bs = 0 ∧ ∀ a, (r2S 0 i (r1S 0 i s)).S a = 0)) ∧
      ((s.cl 0).part = 2 → ((r2S 0 i (r1S 0 i s)).cl 0).bs = 6 ∧ ((r2S 0 i (r1S 0 i s)).cl 0).bv = v ∧ ∀ a, ((r2S 0 i (r1S 0 i s)).cl 0).rch.testBit a = true → (r2S 0 i (r1S 0 i s)).S a = 6) := by
    rw [b6]
    have f0 : ((r1S 0 i s).cl 0).part = (s.cl 0).part := by rw [r1_cl]
    have f1 : ((r1S 0 i s).cl 0).bs = (s.cl 0).bs := by rw [r1_cl]
    have f2 : ((r1S 0 i s).cl 0).bv = (s.cl 0).bv := by rw [r1_cl]
    have f3 : (r1S 0 i s).S = s.S := rfl
    have f4 : (r1S 0 i s).V = s.V := rfl
    rcases h.part with hp | hp
    · obtain ⟨d1, d2, d3⟩ := h.p1 hp
      unfold r2S
      rw [f0, f1, f3, f4]
      by_cases hlt : (s.cl 0).bs < s.S i
      · have hS : s.S i = 6 ∧ s.V i = v := (h.dat i).resolve_left (by omega)
        rw [if_pos ⟨hp, hlt⟩]
        refine ⟨h.dat, fun a ha => ha, fun _ => ⟨?_, fun a ha => ?_, fun e => ?_⟩, fun e => by omega⟩
        · refine .inr ⟨?_, ?_⟩
          · rw [setC_self]; exact hS.1
          · rw [setC_self]; exact hS.2
        · rw [setC_self]
          show s.S a ≤ s.S i
          rcases h.dat a with e | e <;> omega
        · obtain ⟨x1, x2⟩ := d3 e
          have := x2 i
          omega
      · rw [if_neg (fun hh => hlt hh.2), if_neg (fun hh => by have := hh.1; omega)]
        refine ⟨h.dat, fun a ha => ha, fun _ => ⟨?_, fun a ha => ?_, fun e => ?_⟩, fun e => by omega⟩
        · rw [f1, f2]; exact d1
        · rw [f1]
          rcases (or_bitC _ _ _).1 ha with ha | rfl
          · exact d2 a ha
          · show s.S a ≤ _; omega
        · rw [f1]; exact d3 e
    · obtain ⟨d1, d2, d3⟩ := h.p2 hp
      unfold r2S
      rw [f0, f1, f3, f4]
      rw [if_neg (fun hh => by have := hh.1; omega)]
      by_cases hlt : s.S i < (s.cl 0).bs
      · rw [if_pos ⟨hp, hlt⟩]
        have hSa : ∀ a, upd s.S i (s.cl 0).bs a = if a = i then 6 else s.S a := fun a => by rw [upd_apply, d1]
        have hVa : ∀ a, upd s.V i ((r1S 0 i s).cl 0).bv a = if a = i then v else s.V a := fun a => by rw [upd_apply, f2, d2]
        refine ⟨fun a => ?_, fun a ha => ?_, fun e => by omega, fun _ => ⟨by show ((r1S 0 i s).cl 0).bs = 6; rw [f1, d1], by show ((r1S 0 i s).cl 0).bv = v; rw [f2, d2], fun a ha => ?_⟩⟩
        · show upd s.S i (s.cl 0).bs a = 0 ∨ (upd s.S i (s.cl 0).bs a = 6 ∧ upd s.V i ((r1S 0 i s).cl 0).bv a = v)
          rw [hSa, hVa]
          by_cases e : a = i
          · rw [if_pos e, if_pos e]; exact .inr ⟨rfl, rfl⟩
          · rw [if_neg e, if_neg e]; exact h.dat a
        · show upd s.S i (s.cl 0).bs a = 6
          rw [hSa]; split
          · rfl
          · exact ha
        · show upd s.S i (s.cl 0).bs a = 6
          rw [hSa]; split
          · rfl
          · rename_i e
            rcases (or_bitC _ _ _).1 ha with ha | ha
            · exact d3 a ha
            · exact absurd ha e
      · rw [if_neg (fun hh => hlt hh.2)]
        refine ⟨h.dat, fun a ha => ha, fun e => by omega, fun _ => ⟨by rw [f1, d1], by rw [f2, d2], fun a ha => ?_⟩⟩
        show s.S a = 6
        rcases (or_bitC _ _ _).1 ha with ha | ha
        · exact d3 a ha
        · subst ha
          rcases h.dat a with e | e
          · omega
          · exact e.1
  obtain ⟨g1, g2, g3, g4⟩ := hd
  have hsix : r ≠ 0 → Six n (r2S 0 i (r1S 0 i s)) := fun e => by
    obtain ⟨Q, x1, x2, x3⟩ := h.six e
    exact ⟨Q, x1, x2, fun a ha => g2 a (x3 a ha)⟩
  have hpart := h.part
  have hback := h.back
  rw [← c5] at g3 g4 hcov hpart hback
  clear b1 b2 b3 b4 b5 b6 b7 b8 b9 g2 c5 hrb hp0 h
  unfold reachS
  generalize r2S 0 i (r1S 0 i s) = s2 at *
  unfold r3S
  split
  · rename_i hf
    exact .inr ⟨c1, hpart, hback, c8, c3, c4, g1, hsix, hrl, hm, hf, g3, g4, hcov⟩
  rename_i hmaj
  split
  · rename_i hp
    obtain ⟨d1, d2, d3⟩ := g3 hp
    by_cases e : r = 0
    · have hw : (s2.cl 0).wr = true := by rw [c3]; exact decide_eq_true e
      rw [if_pos hw]
      have hbs := (d3 e).1
      refine .inr ⟨c1, .inr rfl, by show p + 1 ≤ 2; omega, c8, by rw [setC_self]; exact c3, fun e => by rw [setC_self]; exact c4 e, g1, hsix, ?_, ?_, ?_, ?_, ?_, ?_⟩ <;> (try rw [setC_self])
      · exact Nat.two_pow_pos n
      · exact pop_zero.symm
      · show 2 * 0 ≤ n; omega
      · intro hh; exact absurd (show (2 : Nat) = 1 from hh) (by omega)
      · intro _
        refine ⟨?_, c4 e, fun a ha => ?_⟩
        · show abv (s2.cl 0).bs 0 = 6
          rw [hbs]; rfl
        · have : (0 : Nat).testBit a = true := ha
          simp at this
      · intro hh
        have hp1 : p = 1 := by have : (2 : Nat) = p + 1 := hh; omega
        omega
    · have hw : ¬ ((s2.cl 0).wr = true) := by rw [c3, decide_eq_false e]; decide
      rw [if_neg hw]
      obtain ⟨Q, x1, x2, x3⟩ := hsix e
      obtain ⟨a, _, ha, hb⟩ := pop_meet hn hrl x1 (by rw [← hm]; omega) x2
      have hbs : (s2.cl 0).bs = 6 ∧ (s2.cl 0).bv = v := by
        have h1 := d2 a ha
        have h2 := x3 a hb
        rcases d1 with d | d
        · omega
        · exact d
      refine .inr ⟨c1, .inr rfl, by show p + 1 ≤ 2; omega, c8, by rw [setC_self]; exact c3, fun e => by rw [setC_self]; exact c4 e, g1, hsix, ?_, ?_, ?_, ?_, ?_, ?_⟩ <;> (try rw [setC_self])
      · exact Nat.two_pow_pos n
      · exact pop_zero.symm
      · show 2 * 0 ≤ n; omega
      · intro hh; exact absurd (show (2 : Nat) = 1 from hh) (by omega)
      · intro _
        refine ⟨hbs.1, hbs.2, fun a ha => ?_⟩
        have : (0 : Nat).testBit a = true := ha
        simp at this
      · intro hh
        have hp1 : p = 1 := by have : (2 : Nat) = p + 1 := hh; omega
        omega
  · rename_i hne
    obtain ⟨d1, d2, d3⟩ := g4 (hpart.resolve_left hne)
    refine .inl ⟨c1, rfl, ?_, g1, fun e => by omega, fun _ => ⟨(s2.cl 0).rch, hrl, by rw [← hm]; omega, d3⟩⟩
    show OpsOk (r + 1) v (s2.ops ++ [⟨0, (s2.cl 0).beg, q, (s2.cl 0).wr, (s2.cl 0).bv⟩])
    rw [c3, d2]
    rcases (by omega : r = 0 ∨ r = 1) with e | e
    · subst e
      have c8 : s2.ops = [] := c8
      rw [c8]
      exact ⟨_, _, rfl⟩
    · subst e
      obtain ⟨b, e, c8⟩ : ∃ b e, s2.ops = [⟨0, b, e, true, v⟩] := c8
      rw [c8]
      exact ⟨_, _, _, _, rfl⟩
theorem popTo_cov {a b : Nat} : ∀ m, (∀ j, j < m → b.testBit j = false → a.testBit j = true) → m ≤ popTo a m + popTo b m
  | 0, _ => Nat.zero_le _
  | m + 1, h => by
    have := popTo_cov m fun j hj => h j (by omega)
    have h1 := h m (by omega)
    rw [popTo, popTo]
    cases hb : b.testBit m
    · rw [h1 hb]; simp; omega
    · cases a.testBit m <;> simp <;> omega
theorem inn_end {n F : Nat} {v : Int} {r p : Nat} {s : CS} (hn : n ≤ 32) (hF : F < 2 ^ n) (hfew : 2 * pop F < n) (h : Inn n F v r p n s) : Inn n F v r (p + 1) 0 s := by
  rcases h with h | h
  · exact .inl h
  refine .inr { h with back := ?_, cov := fun _ j hj => by omega }
  have hb := h.back
  by_cases e : (s.cl 0).part = p + 1
  · have := popTo_cov (a := (s.cl 0).rch) (b := F) n fun j hj hf => h.cov e j hj hj hf
    rw [← pop_lt h.rch hn, ← pop_lt hF hn, ← h.many] at this
    have := h.few
    omega
  · omega
theorem inn_rest {n F : Nat} {v : Int} {r i : Nat} {s : CS} (h : Inn n F v r 2 i s) : Rest n F v (r + 1) s := by
  rcases h with h | h
  · exact h
  · have := h.back
    have := h.part
    omega
/-- Copies fail, and nothing else is. -/
def Fld (F : Nat) (s : CS) : Prop := s = { CS0 with fl := F }
theorem fld_fail {n F i q : Nat} {s : CS} (hi : i < n) (hF : F < 2 ^ i) (h : Fld F s) : Fld (F ||| 2 ^ i) (doS n 3 0 i 0 q s).2 := by
  have hc : copiedB n i = true := by unfold copiedB; simp; omega
  have h0 : F.testBit i = false := Nat.testBit_lt_two_pow hF
  subst h
  unfold doS
  rw [if_neg (by omega), if_neg (fun hh => by
    rcases hh with hh | hh
    · exact absurd rfl hh.1
    · rw [hc] at hh; exact absurd hh.2 (by decide)), if_pos rfl]
  show Fld _ (if F.testBit i = true then _ else _ : Int × CS).2
  rw [if_neg (by rw [h0]; decide)]
  rfl
theorem fld_pop {F i : Nat} (hi : i < 32) (hF : F < 2 ^ i) : F ||| 2 ^ i < 2 ^ (i + 1) ∧ pop (F ||| 2 ^ i) = pop F + 1 :=
  ⟨or_lt (Nat.lt_of_lt_of_le hF (Nat.pow_le_pow_right (by omega) (by omega))) (by omega), pop_or hi (Nat.testBit_lt_two_pow hF)⟩
theorem fld_rest {n F : Nat} {v : Int} {s : CS} (h : Fld F s) : Rest n F v 0 s := by
  subst h
  exact ⟨rfl, rfl, rfl, fun _ => .inl rfl, fun _ _ => rfl, fun h => absurd rfl h⟩
end Go.Proofs.Ytoakgoigamigjaa
