/- The walk of tick.ticks. -/
import Derived.Test.YthonnpimfidkdaaPast

import Derived.RegionTactic
import Derived.BigRegion
set_option linter.unusedVariables false
set_option linter.unusedSimpArgs false
namespace Go.Proofs.Ythonnpimfidkdaa
open Go.RowKit Go.Maps

def ticksE (E : Ev) : Nat → (Int → Nat) × (Int → Nat)
  | 0 => (fun _ => 0, fun _ => 0)
  | j + 1 => (fun q => if q = E.p j then max ((ticksE E j).1 (E.p j)) (if E.k j = 3 then (ticksE E j).2 (E.m j) else 0) + 1 else (ticksE E j).1 q,
      fun x => if E.k j = 2 ∧ x = E.m j then max ((ticksE E j).1 (E.p j)) (if E.k j = 3 then (ticksE E j).2 (E.m j) else 0) + 1 else (ticksE E j).2 x)
def clockT (E : Ev) (j : Nat) (q : Int) : Nat := (ticksE E j).1 q
def sentT (E : Ev) (j : Nat) (x : Int) : Nat := (ticksE E j).2 x
def tickT (E : Ev) (j : Nat) : Nat := max (clockT E j (E.p j)) (if E.k j = 3 then sentT E j (E.m j) else 0) + 1
theorem clockT_zero (E : Ev) (q : Int) : clockT E 0 q = 0 := rfl
theorem sentT_zero (E : Ev) (x : Int) : sentT E 0 x = 0 := rfl
theorem clockT_succ (E : Ev) (j : Nat) (q : Int) : clockT E (j + 1) q = if q = E.p j then tickT E j else clockT E j q := rfl
theorem sentT_succ (E : Ev) (j : Nat) (x : Int) : sentT E (j + 1) x = if E.k j = 2 ∧ x = E.m j then tickT E j else sentT E j x := rfl
theorem ticks_le (E : Ev) (j : Nat) : (∀ q, clockT E j q ≤ j) ∧ (∀ x, sentT E j x ≤ j) ∧ 1 ≤ tickT E j ∧ tickT E j ≤ j + 1 := by
  have key : (∀ q, clockT E j q ≤ j) ∧ ∀ x, sentT E j x ≤ j := by
    induction j with
    | zero => exact ⟨fun q => Nat.le_refl _, fun x => Nat.le_refl _⟩
    | succ j ih =>
      have ht : tickT E j ≤ j + 1 := by
        unfold tickT
        have h1 := ih.1 (E.p j)
        have h2 := ih.2 (E.m j)
        split <;> omega
      constructor
      · intro q
        rw [clockT_succ]
        split
        · exact ht
        · exact Nat.le_succ_of_le (ih.1 q)
      · intro x
        rw [sentT_succ]
        split
        · exact ht
        · exact Nat.le_succ_of_le (ih.2 x)
  refine ⟨key.1, key.2, ?_, ?_⟩
  · unfold tickT; omega
  · unfold tickT
    have h1 := key.1 (E.p j)
    have h2 := key.2 (E.m j)
    split <;> omega
/-- What is ahead has the lesser tick. -/
theorem tick_rises (E : Ev) (j : Nat) : (∀ q i, (lastW E j q).testBit i = true → tickT E i ≤ clockT E j q) ∧ (∀ x i, (sentW E j x).testBit i = true → tickT E i ≤ sentT E j x) ∧ ∀ i, Hb E i j → tickT E i < tickT E j := by
  have step : ∀ j, (∀ q i, (lastW E j q).testBit i = true → tickT E i ≤ clockT E j q) → (∀ x i, (sentW E j x).testBit i = true → tickT E i ≤ sentT E j x) → ∀ i, Hb E i j → tickT E i < tickT E j := by
    intro j h1 h2 i hi
    unfold Hb pastW at hi
    rw [show tickT E j = max (clockT E j (E.p j)) (if E.k j = 3 then sentT E j (E.m j) else 0) + 1 from rfl]
    split at hi
    · rename_i hk
      rw [if_pos hk]
      rw [Nat.testBit_or, Bool.or_eq_true] at hi
      rcases hi with hi | hi
      · have := h1 _ i hi; omega
      · have := h2 _ i hi; omega
    · rename_i hk
      rw [if_neg hk]
      rw [Nat.or_zero] at hi
      have := h1 _ i hi; omega
  have key : (∀ q i, (lastW E j q).testBit i = true → tickT E i ≤ clockT E j q) ∧ (∀ x i, (sentW E j x).testBit i = true → tickT E i ≤ sentT E j x) := by
    induction j with
    | zero => exact ⟨fun q i h => by rw [lastW_zero] at h; simp at h, fun x i h => by rw [sentW_zero] at h; simp at h⟩
    | succ j ih =>
      have hs := step j ih.1 ih.2
      have hw : ∀ i, (pastW E j ||| 2 ^ j).testBit i = true → tickT E i ≤ tickT E j := by
        intro i hi
        rw [testBit_put] at hi
        rcases hi with hi | rfl
        · exact Nat.le_of_lt (hs i hi)
        · exact Nat.le_refl _
      constructor
      · intro q i hi
        rw [lastW_succ] at hi
        rw [clockT_succ]
        split at hi
        · rename_i hq; rw [if_pos hq]; exact hw i hi
        · rename_i hq; rw [if_neg hq]; exact ih.1 q i hi
      · intro x i hi
        rw [sentW_succ] at hi
        rw [sentT_succ]
        split at hi
        · rename_i hq; rw [if_pos hq]; exact hw i hi
        · rename_i hq; rw [if_neg hq]; exact ih.2 x i hi
  exact ⟨key.1, key.2, step j key.1 key.2⟩

theorem infoInt2 : (Try.prog.info? 3).map (fun i => (i.zero, i.size, i.bytes)) = some (some (.int .i64 0), 1, 8) := by kernel_rfl
def clockF (E : Ev) (j : Nat) : Nat → Value := fun q => .int .i64 (clockT E j q : Nat)
def outF (E : Ev) (j : Nat) : Nat → Value := fun i => .int .i64 ((if i < j then tickT E i else 0 : Nat))
def sentG (E : Ev) (j : Nat) : Int → Int := fun x => (sentT E j x : Nat)
/-- The state of a round of Ticks: last, sent, past; the event's own variable in block g. -/
structure TS (w wr : World) (n len cnt g : Nat) (lf : Nat → Nat) (sf : Int → Int) (pf : Nat → Nat) (q : Nat) (k m : Int) : Prop where
  below : Below w.heap.size w wr
  hg : w.heap.size + 2 < g
  hgs : g < wr.heap.size
  last : Own wr w.heap.size 3 1 (some ⟨w.heap.size, 0, none⟩) n n (fun i => .int .i64 (lf i : Nat))
  sent : MapI wr Try.prog 3 3 .i64 .i64 (w.heap.size + 1) cnt sf
  past : Own wr w.heap.size 3 1 (some ⟨w.heap.size + 2, 0, none⟩) len len (fun i => .int .i64 (pf i : Nat))
  e0 : wr.cell? ⟨g, 0, none⟩ = some (.int .i64 q)
  e1 : wr.cell? ⟨g, 1, none⟩ = some (.int .i64 k)
  e2 : wr.cell? ⟨g, 2, none⟩ = some (.int .i64 m)

section
variable {w wr : World} {n len cnt g : Nat} {lf : Nat → Nat} {sf : Int → Int} {pf : Nat → Nat} {q : Nat} {k m : Int}
theorem TS.drew (h : TS w wr n len cnt g lf sf pf q k m) : TS w wr.drew n len cnt g lf sf pf q k m := ⟨h.below.drew, h.hg, h.hgs, h.last, h.sent, h.past, h.e0, h.e1, h.e2⟩
theorem TS.setOut (h : TS w wr n len cnt g lf sf pf q k m) {i : Nat} (hi : i < len) (u : Value) (v : Nat) (hu : u = .int .i64 (v : Nat)) (pf' : Nat → Nat) (h1 : pf' i = v) (h2 : ∀ t, t ≠ i → pf' t = pf t) :
    TS w (wr.setCell ⟨w.heap.size + 2, i, none⟩ u) n len cnt g lf sf pf' q k m := by
  have hg := h.hg
  refine ⟨h.below.setCell (by simp) u, h.hg, by have := h.hgs; simpa [World.setCell] using this, h.last.far (by simp [ablock]) u, h.sent.setCell (by simp) u, h.past.set1 u hi (by rw [hu, h1]) (fun t _ ht => by rw [h2 t ht]), ?_, ?_, ?_⟩
  · rw [cell_other (by simp; omega)]; exact h.e0
  · rw [cell_other (by simp; omega)]; exact h.e1
  · rw [cell_other (by simp; omega)]; exact h.e2
theorem TS.setLast (h : TS w wr n len cnt g lf sf pf q k m) {i : Nat} (hi : i < n) (u : Value) (v : Nat) (hu : u = .int .i64 (v : Nat)) (lf' : Nat → Nat) (h1 : lf' i = v) (h2 : ∀ t, t ≠ i → lf' t = lf t) :
    TS w (wr.setCell ⟨w.heap.size, i, none⟩ u) n len cnt g lf' sf pf q k m := by
  have hg := h.hg
  refine ⟨h.below.setCell (by simp) u, h.hg, by have := h.hgs; simpa [World.setCell] using this, h.last.set1 u hi (by rw [hu, h1]) (fun t _ ht => by rw [h2 t ht]), h.sent.setCell (by simp) u, h.past.far (by simp [ablock]) u, ?_, ?_, ?_⟩
  · rw [cell_other (by simp; omega)]; exact h.e0
  · rw [cell_other (by simp; omega)]; exact h.e1
  · rw [cell_other (by simp; omega)]; exact h.e2
end


set_option maxRecDepth 100000 in
set_option maxHeartbeats 1600000 in
theorem ticks_any (n : Nat) (A : Option Addr) (len cap B : Nat) (E : Ev) (w : World) (hgood : runCode n E len = 0) (hB : B ≤ w.heap.size) (hr : Rd w B A (len * 3) (evF E)) :
    Calls Try.prog 11 #[.int .i64 n, .slice A len cap] w fun e w' => e = .returned (.slice (some ⟨w.heap.size + 2, 0, none⟩) len len) ∧ Own w' w.heap.size 3 1 (some ⟨w.heap.size + 2, 0, none⟩) len len (outF E len) ∧ Below w.heap.size w w' := by
  obtain ⟨⟨h1, h6, hl⟩, hok⟩ := runCode_ok hgood
  have HOK := Lib.hid hok; clear hok hgood
  have HR := Lib.hid hr; clear hr
  have hmm := @run_makeMap Try.prog
  obtain ⟨i0, hi0, hz0, hz1, hz2⟩ := info_parts infoInt2
  go_enter Try.func11, Try.ntmps11
  go_wp2_with (first
    | (at_make; refine wpList_mk1 rfl (.tmp 11) (.tmp 11) _ rfl 3 i0 _ 8 Try.underlying23 hi0 hz0 hz1 hz2 rfl .i64 .i64 n rfl rfl (by omega) (by unfold maxLen; omega) w.heap.size w.heap.size rfl (Nat.le_refl _) ?_; intro w1 ho1 he1; have HO1 := Lib.hid ho1; have HE1 := Lib.hid he1; clear ho1 he1)
    | (at_make; refine wpList_mk1 rfl (.tmp 15) (.tmp 15) _ rfl 3 i0 _ 8 Try.underlying23 hi0 hz0 hz1 hz2 rfl .i64 .i64 len rfl rfl (by omega) (by unfold maxLen; omega) w.heap.size (w.heap.size + 2) (by rw [HE1.out]; simp) (by omega) ?_; intro w2 ho2 he2; have HO2 := Lib.hid ho2; have HE2 := Lib.hid he2; clear ho2 he2))
  have hsz1 : w1.heap.size = w.heap.size + 1 := by rw [HE1.out]; simp
  rw [hsz1]
  have HSZ1 := Lib.hid hsz1; clear hsz1
  go_loopw [19] (fun i wr => ∃ j : Nat, j ≤ len ∧ i = .int .i64 j ∧ Hid (Below w.heap.size w wr) ∧ w.heap.size + 2 < wr.heap.size ∧ Hid (Own wr w.heap.size 3 1 (some ⟨w.heap.size, 0, none⟩) n n (clockF E j)) ∧
      Hid (MapI wr Try.prog 3 3 .i64 .i64 (w.heap.size + 1) j (sentG E j)) ∧ Hid (Own wr w.heap.size 3 1 (some ⟨w.heap.size + 2, 0, none⟩) len len (outF E j))) (fun i _ => len - (intOf i).toNat)
  case atStart =>
    have e2 := HE2.out
    have e1 := HE1.out
    refine ⟨0, by omega, rfl, ?_, ?_, ?_, ?_, ?_⟩
    · show Below _ _ _
      rw [e2, e1]
      exact (((Below.refl _ _).alloc (Nat.le_refl _) _).alloc (by simp) _).alloc (by simp; omega) _
    · rw [e2]; simp [HSZ1.out]
    · rw [e2]
      exact ((HO1.out.alloc _).alloc _).congr1 fun q _ => by simp [clockF, clockT_zero]
    · rw [e2]
      have := MapI.made w1 Try.prog 3 3 .i64 .i64
      rw [HSZ1.out] at this
      exact this.alloc _
    · exact HO2.out.congr1 fun i _ => by simp [outF]
  case round =>
    obtain ⟨j, hj, rfl, HBr, hz, HL, HM, HP⟩ := hrel
    by_cases hlt : j < len
    · obtain ⟨ad, rfl, hbl, c0, c1, c2⟩ := ((HR.out.more hB).below HBr.out).rec3 hlt
      clear hbl
      obtain ⟨hp, hk, hm⟩ := evCode_ok (HOK.out j hlt)
      obtain ⟨q, hq⟩ : ∃ q : Nat, E.p j = q := Int.eq_ofNat_of_zero_le hp.1
      have hqn : q < n := by omega
      rw [hq] at c0
      have HQ := Lib.hid hq
      clear hq hp
      obtain ⟨hb1, hb2, hb3, hb4⟩ := ticks_le E j
      have hbq := hb1 q
      have hbm := hb2 (E.m j)
      clear hb1 hb2 hb3 hb4
      have HW0 : Hid (∀ (kk : Int), TS w (wr.alloc (.cells #[.int .i64 q, .int .i64 kk, .int .i64 (E.m j)] 32)) n len j wr.heap.size (fun i => clockT E j i) (sentG E j) (fun i => if i < j then tickT E i else 0) q kk (E.m j)) := by
        intro kk
        refine ⟨HBr.out.alloc (by omega) _, hz, by simp, HL.out.alloc _, HM.out.alloc _, HP.out.alloc _, ?_, ?_, ?_⟩
        · exact World.cell?_alloc_at _ _ _ _ rfl
        · exact World.cell?_alloc_at _ _ _ _ rfl
        · exact World.cell?_alloc_at _ _ _ _ rfl
      rcases (by omega : E.k j = 1 ∨ E.k j = 2 ∨ E.k j = 3) with h3 | h3 | h3
      · rw [h3] at c1
        have HK := Lib.hid h3
        clear h3 hk hm
        have HPS0 := Lib.hid (HW0.out 1).drew
        have hl1 := ((HW0.out 1).last.at1 hqn).1
        have HTK : Hid (tickT E j = clockT E j q + 1) := by show tickT E j = _; rw [tickT, if_neg (by rw [HK.out]; omega), HQ.out, Nat.max_eq_left (Nat.zero_le _)]
        go_wp2
        have hps := HW0.out 1
        clear c0 c1 c2 hl1 HPS0 HW0
        generalize wr.alloc (.cells #[.int .i64 q, .int .i64 1, .int .i64 (E.m j)] 32) = W at hps ⊢
        have HPS := Lib.hid hps; clear hps
        obtain ⟨hc1, hf1⟩ := HPS.out.past.at1 hlt
        obtain ⟨hc2, hf2⟩ := HPS.out.last.at1 hqn
        have he0 := HPS.out.e0
        have he1 := HPS.out.e1
        have he2 := HPS.out.e2
        have hg1 := HPS.out.hg
        have hg2 := HPS.out.hgs
        have hji : (j : Int) < (len : Int) := by omega
        have hqi : (q : Int) < (n : Int) := by omega
        have hg3 := (((HPS.out.setOut hlt (.int .i64 ((clockT E j q : Int) + 1)) (tickT E j) (by rw [HTK.out]; go_num) (fun i => if i < j + 1 then tickT E i else 0) (by simp) (fun t ht => by by_cases h : t < j <;> simp [h] <;> omega)).setLast hqn (.int .i64 ((clockT E j q : Int) + 1)) (tickT E j) (by rw [HTK.out]; go_num) (fun i => clockT E (j + 1) i) (by rw [clockT_succ, if_pos HQ.out.symm]) (fun t ht => by rw [clockT_succ, if_neg (by rw [HQ.out]; omega)]))).drew
        have HG3 := Lib.hid hg3; clear hg3
        go_region
        go_wp2
        have HSS : Hid (sentG E (j + 1) = sentG E j) := by
          funext x
          simp only [sentG]
          rw [sentT_succ, if_neg (fun h => by have := h.1; rw [HK.out] at this; omega)]
        go_roundw
        case rel => exact ⟨j + 1, by omega, by go_num, HG3.out.below, Nat.lt_trans HG3.out.hg HG3.out.hgs, HG3.out.last, by show MapI _ _ _ _ _ _ _ _ _; rw [HSS.out]; exact HG3.out.sent.mono (by omega), HG3.out.past⟩
        case measure => simp [intOf]; omega
      · rw [h3] at c1
        have HK := Lib.hid h3
        obtain ⟨⟨hm0, hm1⟩, _⟩ := hm (by omega)
        clear h3 hk hm
        have HPS0 := Lib.hid (HW0.out 2).drew
        have hl1 := ((HW0.out 2).last.at1 hqn).1
        have HTK : Hid (tickT E j = clockT E j q + 1) := by show tickT E j = _; rw [tickT, if_neg (by rw [HK.out]; omega), HQ.out, Nat.max_eq_left (Nat.zero_le _)]
        go_wp2
        have hps := HW0.out 2
        clear c0 c1 c2 hl1 HPS0 HW0
        generalize wr.alloc (.cells #[.int .i64 q, .int .i64 2, .int .i64 (E.m j)] 32) = W at hps ⊢
        have HPS := Lib.hid hps; clear hps
        obtain ⟨hc1, hf1⟩ := HPS.out.past.at1 hlt
        obtain ⟨hc2, hf2⟩ := HPS.out.last.at1 hqn
        have he0 := HPS.out.e0
        have he1 := HPS.out.e1
        have he2 := HPS.out.e2
        have hg1 := HPS.out.hg
        have hg2 := HPS.out.hgs
        have hji : (j : Int) < (len : Int) := by omega
        have hqi : (q : Int) < (n : Int) := by omega
        have hg3 := (((HPS.out.setOut hlt (.int .i64 ((clockT E j q : Int) + 1)) (tickT E j) (by rw [HTK.out]; go_num) (fun i => if i < j + 1 then tickT E i else 0) (by simp) (fun t ht => by by_cases h : t < j <;> simp [h] <;> omega)).setLast hqn (.int .i64 ((clockT E j q : Int) + 1)) (tickT E j) (by rw [HTK.out]; go_num) (fun i => clockT E (j + 1) i) (by rw [clockT_succ, if_pos HQ.out.symm]) (fun t ht => by rw [clockT_succ, if_neg (by rw [HQ.out]; omega)]))).drew
        have HG3 := Lib.hid hg3; clear hg3
        go_region
        go_wp2_with (at_mapUpdate; refine wpList_mput rfl _ _ _ 48 rfl keyInt Try.underlying3 Try.underlying48 Try.underlying3 rfl HG3.out.sent (by unfold maxLen; omega) (E.m j) ((clockT E j q : Int) + 1) rfl rfl (WalkArith.wf_i64 (by omega)) (WalkArith.wf_i64 (by omega)) (sentG E (j + 1)) (by simp only [sentG]; rw [sentT_succ, if_pos ⟨HK.out, rfl⟩, HTK.out]; omega) (fun y hy => by simp only [sentG]; rw [sentT_succ, if_neg (fun h => hy h.2)]) ?_
                     intro w4 hm4 hg4
                     have HM4 := Lib.hid hm4
                     have HG4 := Lib.hid hg4
                     clear hm4 hg4)
        go_roundw
        case rel =>
          have hz2 := HG3.out.hg
          have hz3 := HG3.out.hgs
          exact ⟨j + 1, by omega, by go_num, HG3.out.below.grown HG4.out (by omega) (by intro k hk; cases hk; omega), by have := HG4.out.size; omega, HG3.out.last.grown HG4.out (.inr (by simp [ablock])), HM4.out, HG3.out.past.grown HG4.out (.inr (by simp [ablock]))⟩
        case measure => simp [intOf]; omega
      · rw [h3] at c1
        have HK := Lib.hid h3
        obtain ⟨⟨hm0, hm1⟩, _⟩ := hm (by omega)
        clear h3 hk hm
        have HPS0 := Lib.hid (HW0.out 3).drew
        have hl1 := ((HW0.out 3).last.at1 hqn).1
        have HTK : Hid (tickT E j = max (clockT E j q) (sentT E j (E.m j)) + 1) := by show tickT E j = _; rw [tickT, if_pos HK.out, HQ.out]
        have hlk : (Instr.lookup 48 (.map (some (w.heap.size + 1))) (.int .i64 (E.m j)) false).run Try.prog (wr.alloc (.cells #[.int .i64 q, .int .i64 3, .int .i64 (E.m j)] 32)) = .ok (.int .i64 (sentT E j (E.m j) : Nat)) (wr.alloc (.cells #[.int .i64 q, .int .i64 3, .int .i64 (E.m j)] 32)) :=
          ((HW0.out 3).sent.look keyInt Try.underlying3 Try.underlying48 Try.underlying3 (zeroInt _) (E.m j) (WalkArith.wf_i64 (by omega))).1
        obtain ⟨tt, htt⟩ : ∃ tt : Nat, tt = max (clockT E j q) (sentT E j (E.m j)) := ⟨_, rfl⟩
        have HTT := Lib.hid htt
        have htt1 : tt ≤ j := by omega
        clear htt
        rcases Nat.lt_or_ge (clockT E j q) (sentT E j (E.m j)) with hcmp | hcmp
        · have HTK : Hid (tickT E j = sentT E j (E.m j) + 1) := by show _ = _; rw [HTK.out, Nat.max_eq_right (by omega)]
          go_wp2
          have hps := HW0.out 3
          clear c0 c1 c2 hl1 hlk HPS0 HW0
          generalize wr.alloc (.cells #[.int .i64 q, .int .i64 3, .int .i64 (E.m j)] 32) = W at hps ⊢
          have HPS := Lib.hid hps; clear hps
          obtain ⟨hc1, hf1⟩ := HPS.out.past.at1 hlt
          obtain ⟨hc2, hf2⟩ := HPS.out.last.at1 hqn
          have he0 := HPS.out.e0
          have he1 := HPS.out.e1
          have he2 := HPS.out.e2
          have hg1 := HPS.out.hg
          have hg2 := HPS.out.hgs
          have hji : (j : Int) < (len : Int) := by omega
          have hqi : (q : Int) < (n : Int) := by omega
          have hg3 := (((HPS.out.setOut hlt (.int .i64 ((sentT E j (E.m j) : Int) + 1)) (tickT E j) (by rw [HTK.out]; go_num) (fun i => if i < j + 1 then tickT E i else 0) (by simp) (fun t ht => by by_cases h : t < j <;> simp [h] <;> omega)).setLast hqn (.int .i64 ((sentT E j (E.m j) : Int) + 1)) (tickT E j) (by rw [HTK.out]; go_num) (fun i => clockT E (j + 1) i) (by rw [clockT_succ, if_pos HQ.out.symm]) (fun t ht => by rw [clockT_succ, if_neg (by rw [HQ.out]; omega)]))).drew
          have HG3 := Lib.hid hg3; clear hg3
          go_region
          go_wp2
          have HSS : Hid (sentG E (j + 1) = sentG E j) := by
            funext x
            simp only [sentG]
            rw [sentT_succ, if_neg (fun h => by have := h.1; rw [HK.out] at this; omega)]
          go_roundw
          case rel => exact ⟨j + 1, by omega, by go_num, HG3.out.below, Nat.lt_trans HG3.out.hg HG3.out.hgs, HG3.out.last, by show MapI _ _ _ _ _ _ _ _ _; rw [HSS.out]; exact HG3.out.sent.mono (by omega), HG3.out.past⟩
          case measure => simp [intOf]; omega
        · have HTK : Hid (tickT E j = clockT E j q + 1) := by show _ = _; rw [HTK.out, Nat.max_eq_left (by omega)]
          go_wp2
          have hps := HW0.out 3
          clear c0 c1 c2 hl1 hlk HPS0 HW0
          generalize wr.alloc (.cells #[.int .i64 q, .int .i64 3, .int .i64 (E.m j)] 32) = W at hps ⊢
          have HPS := Lib.hid hps; clear hps
          obtain ⟨hc1, hf1⟩ := HPS.out.past.at1 hlt
          obtain ⟨hc2, hf2⟩ := HPS.out.last.at1 hqn
          have he0 := HPS.out.e0
          have he1 := HPS.out.e1
          have he2 := HPS.out.e2
          have hg1 := HPS.out.hg
          have hg2 := HPS.out.hgs
          have hji : (j : Int) < (len : Int) := by omega
          have hqi : (q : Int) < (n : Int) := by omega
          have hg3 := (((HPS.out.setOut hlt (.int .i64 ((clockT E j q : Int) + 1)) (tickT E j) (by rw [HTK.out]; go_num) (fun i => if i < j + 1 then tickT E i else 0) (by simp) (fun t ht => by by_cases h : t < j <;> simp [h] <;> omega)).setLast hqn (.int .i64 ((clockT E j q : Int) + 1)) (tickT E j) (by rw [HTK.out]; go_num) (fun i => clockT E (j + 1) i) (by rw [clockT_succ, if_pos HQ.out.symm]) (fun t ht => by rw [clockT_succ, if_neg (by rw [HQ.out]; omega)]))).drew
          have HG3 := Lib.hid hg3; clear hg3
          go_region
          go_wp2
          have HSS : Hid (sentG E (j + 1) = sentG E j) := by
            funext x
            simp only [sentG]
            rw [sentT_succ, if_neg (fun h => by have := h.1; rw [HK.out] at this; omega)]
          go_roundw
          case rel => exact ⟨j + 1, by omega, by go_num, HG3.out.below, Nat.lt_trans HG3.out.hg HG3.out.hgs, HG3.out.last, by show MapI _ _ _ _ _ _ _ _ _; rw [HSS.out]; exact HG3.out.sent.mono (by omega), HG3.out.past⟩
          case measure => simp [intOf]; omega
    · obtain rfl : j = len := by omega
      go_wp2
      go_ret
      exact ⟨rfl, HP.out, HBr.out⟩
end Go.Proofs.Ythonnpimfidkdaa
