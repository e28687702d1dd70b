/- The walk of run.Past. -/
import Derived.Test.YthonnpimfidkdaaRun1
import Derived.Test.YthonnpimfidkdaaStill
set_option linter.unusedVariables false
set_option linter.unusedSimpArgs false
namespace Go.Proofs.Ythonnpimfidkdaa
open Go.RowKit Go.Maps

theorem infoU32 : (Try.prog.info? 41).map (fun i => (i.zero, i.size, i.bytes)) = some (some (.int .u32 0), 1, 4) := by kernel_rfl
theorem zeroU32 (w : World) : (zeroValue 41).run Try.prog w = .ok (.int .u32 0) w := by kernel_rfl
def lastF (E : Ev) (j : Nat) : Nat → Value := fun q => .int .u32 (lastW E j q : Nat)
def pastF (E : Ev) (j : Nat) : Nat → Value := fun i => .int .u32 ((if i < j then pastW E i else 0 : Nat))
def sentF (E : Ev) (j : Nat) : Int → Int := fun x => (sentW E j x : Nat)

/-- The state of a round of Past: last, sent, past; the event's own variable in block g. -/
structure PS (w wr : World) (n len cnt g : Nat) (lf : Nat → Nat) (sf : Int → Int) (pf : Nat → Nat) (q : Nat) (k m : Int) : Prop where
  below : Below w.heap.size w wr
  hg : w.heap.size + 2 < g
  hgs : g < wr.heap.size
  last : Own wr w.heap.size 41 1 (some ⟨w.heap.size, 0, none⟩) n n (fun i => .int .u32 (lf i : Nat))
  sent : MapI wr Try.prog 3 41 .i64 .u32 (w.heap.size + 1) cnt sf
  past : Own wr w.heap.size 41 1 (some ⟨w.heap.size + 2, 0, none⟩) len len (fun i => .int .u32 (pf i : Nat))
  e0 : wr.cell? ⟨g, 0, none⟩ = some (.int .i64 q)
  e1 : wr.cell? ⟨g, 1, none⟩ = some (.int .i64 k)
  e2 : wr.cell? ⟨g, 2, none⟩ = some (.int .i64 m)

section
variable {w wr : World} {n len cnt g : Nat} {lf : Nat → Nat} {sf : Int → Int} {pf : Nat → Nat} {q : Nat} {k m : Int}
theorem PS.drew (h : PS w wr n len cnt g lf sf pf q k m) : PS w wr.drew n len cnt g lf sf pf q k m := ⟨h.below.drew, h.hg, h.hgs, h.last, h.sent, h.past, h.e0, h.e1, h.e2⟩
theorem Own.at1 {w : World} {base : Nat} {e : TypeId} {n cap g : Nat} {f : Nat → Value} (h : Own w base e 1 (some ⟨g, 0, none⟩) n cap f) {j : Nat} (hj : j < n) : w.cell? ⟨g, j, none⟩ = some (f j) ∧ w.frozen? ⟨g, j, none⟩ = false := by
  obtain ⟨g', hg, _, _, hc, hf⟩ := h.pos1 (by omega)
  injection hg with hg
  injection hg with hg
  subst hg
  exact ⟨hc j hj, hf j⟩
theorem cell_other {w : World} {p : Addr} {v : Value} {b o : Nat} (h : b ≠ p.block) : (w.setCell p v).cell? ⟨b, o, none⟩ = w.cell? ⟨b, o, none⟩ :=
  World.cell?_setCell_other w p _ v (fun e => h (by subst e; rfl))
theorem PS.setPast (h : PS w wr n len cnt g lf sf pf q k m) {i : Nat} (hi : i < len) (u : Value) (v : Nat) (hu : u = .int .u32 (v : Nat)) (pf' : Nat → Nat) (h1 : pf' i = v) (h2 : ∀ t, t ≠ i → pf' t = pf t) :
    PS w (wr.setCell ⟨w.heap.size + 2, i, none⟩ u) n len cnt g lf sf pf' q k m := by
  have hg := h.hg
  refine ⟨h.below.setCell (by simp) u, h.hg, by have := h.hgs; simpa [World.setCell] using this, h.last.far (by simp [ablock]) u, h.sent.setCell (by simp) u, h.past.set1 u hi (by rw [hu, h1]) (fun t _ ht => by rw [h2 t ht]), ?_, ?_, ?_⟩
  · rw [cell_other (by simp; omega)]; exact h.e0
  · rw [cell_other (by simp; omega)]; exact h.e1
  · rw [cell_other (by simp; omega)]; exact h.e2
theorem PS.setLast (h : PS w wr n len cnt g lf sf pf q k m) {i : Nat} (hi : i < n) (u : Value) (v : Nat) (hu : u = .int .u32 (v : Nat)) (lf' : Nat → Nat) (h1 : lf' i = v) (h2 : ∀ t, t ≠ i → lf' t = lf t) :
    PS w (wr.setCell ⟨w.heap.size, i, none⟩ u) n len cnt g lf' sf pf q k m := by
  have hg := h.hg
  refine ⟨h.below.setCell (by simp) u, h.hg, by have := h.hgs; simpa [World.setCell] using this, h.last.set1 u hi (by rw [hu, h1]) (fun t _ ht => by rw [h2 t ht]), h.sent.setCell (by simp) u, h.past.far (by simp [ablock]) u, ?_, ?_, ?_⟩
  · rw [cell_other (by simp; omega)]; exact h.e0
  · rw [cell_other (by simp; omega)]; exact h.e1
  · rw [cell_other (by simp; omega)]; exact h.e2
end

set_option maxRecDepth 100000 in
set_option maxHeartbeats 1600000 in
theorem past_any (n : Nat) (A : Option Addr) (len cap B : Nat) (E : Ev) (w : World) (hgood : runCode n E len = 0) (hB : B ≤ w.heap.size) (hr : Rd w B A (len * 3) (evF E)) :
    Calls Try.prog 17 #[.int .i64 n, .slice A len cap] w fun e w' => e = .returned (.slice (some ⟨w.heap.size + 2, 0, none⟩) len len) ∧ Own w' w.heap.size 41 1 (some ⟨w.heap.size + 2, 0, none⟩) len len (pastF E len) ∧ Below w.heap.size w w' := by
  obtain ⟨⟨h1, h6, hl⟩, hok⟩ := runCode_ok hgood
  have HOK := Lib.hid hok; clear hok hgood
  have HR := Lib.hid hr; clear hr
  have hmm := @run_makeMap Try.prog
  obtain ⟨i0, hi0, hz0, hz1, hz2⟩ := info_parts infoU32
  go_enter Try.func17, Try.ntmps17
  go_wp2_with (first
    | (at_make; refine wpList_mk1 rfl (.tmp 10) (.tmp 10) _ rfl 41 i0 _ 4 Try.underlying39 hi0 hz0 hz1 hz2 rfl .i64 .i64 n rfl rfl (by omega) (by unfold maxLen; omega) w.heap.size w.heap.size rfl (Nat.le_refl _) ?_; intro w1 ho1 he1; have HO1 := Lib.hid ho1; have HE1 := Lib.hid he1; clear ho1 he1)
    | (at_make; refine wpList_mk1 rfl (.tmp 14) (.tmp 14) _ rfl 41 i0 _ 4 Try.underlying39 hi0 hz0 hz1 hz2 rfl .i64 .i64 len rfl rfl (by omega) (by unfold maxLen; omega) w.heap.size (w.heap.size + 2) (by rw [HE1.out]; simp) (by omega) ?_; intro w2 ho2 he2; have HO2 := Lib.hid ho2; have HE2 := Lib.hid he2; clear ho2 he2))
  have hsz1 : w1.heap.size = w.heap.size + 1 := by rw [HE1.out]; simp
  rw [hsz1]
  have HSZ1 := Lib.hid hsz1; clear hsz1
  go_loopw [18] (fun i wr => ∃ j : Nat, j ≤ len ∧ i = .int .i64 j ∧ Hid (Below w.heap.size w wr) ∧ w.heap.size + 2 < wr.heap.size ∧ Hid (Own wr w.heap.size 41 1 (some ⟨w.heap.size, 0, none⟩) n n (lastF E j)) ∧
      Hid (MapI wr Try.prog 3 41 .i64 .u32 (w.heap.size + 1) j (sentF E j)) ∧ Hid (Own wr w.heap.size 41 1 (some ⟨w.heap.size + 2, 0, none⟩) len len (pastF E j))) (fun i _ => len - (intOf i).toNat)
  case atStart =>
    have e2 := HE2.out
    have e1 := HE1.out
    refine ⟨0, by omega, rfl, ?_, ?_, ?_, ?_, ?_⟩
    · show Below _ _ _
      rw [e2, e1]
      exact (((Below.refl _ _).alloc (Nat.le_refl _) _).alloc (by simp) _).alloc (by simp; omega) _
    · rw [e2]; simp [HSZ1.out]
    · rw [e2]
      exact ((HO1.out.alloc _).alloc _).congr1 fun q _ => by simp [lastF, lastW_zero]
    · rw [e2]
      have := MapI.made w1 Try.prog 3 41 .i64 .u32
      rw [HSZ1.out] at this
      exact this.alloc _
    · exact HO2.out.congr1 fun i _ => by simp [pastF]
  case round =>
    obtain ⟨j, hj, rfl, HBr, hz, HL, HM, HP⟩ := hrel
    by_cases hlt : j < len
    · obtain ⟨ad, rfl, hbl, c0, c1, c2⟩ := ((HR.out.more hB).below HBr.out).rec3 hlt
      clear hbl
      obtain ⟨hp, hk, hm⟩ := evCode_ok (HOK.out j hlt)
      obtain ⟨q, hq⟩ : ∃ q : Nat, E.p j = q := Int.eq_ofNat_of_zero_le hp.1
      have hqn : q < n := by omega
      rw [hq] at c0
      obtain ⟨gl, hgl, _, _, hcl, hfl⟩ := HL.out.pos1 (by omega)
      obtain rfl : gl = w.heap.size := by injection hgl with h; injection h with h; exact h.symm
      have hl1 := hcl q hqn
      have hl2 := hfl q
      clear hcl hfl hgl
      obtain ⟨gp, hgp, _, _, hcp, hfp⟩ := HP.out.pos1 (by omega)
      obtain rfl : gp = w.heap.size + 2 := by injection hgp with h; injection h with h; exact h.symm
      have hp1 := hcp j hlt
      have hp2 := hfp j
      clear hcp hfp hgp
      simp only [lastF, pastF] at hl1 hp1
      have HQ := Lib.hid hq
      clear hq hp
      have HW0 : Hid (∀ (kk : Int), PS w ((wr.setCell ⟨w.heap.size + 2, j, none⟩ (.int .u32 (lastW E j q : Nat))).alloc (.cells #[.int .i64 q, .int .i64 kk, .int .i64 (E.m j)] 32)) n len j wr.heap.size (fun i => lastW E j i) (sentF E j) (fun i => if i < j then pastW E i else if i = j then lastW E j q else 0) q kk (E.m j)) := by
        intro kk
        have hsz : (wr.setCell ⟨w.heap.size + 2, j, none⟩ (.int .u32 (lastW E j q : Nat))).heap.size = wr.heap.size := by simp [World.setCell]
        refine ⟨(HBr.out.setCell (by simp) _).alloc (by omega) _, hz, by simp [World.setCell], (HL.out.far (by simp [ablock]) _).alloc _, (HM.out.setCell (by simp) _).alloc _, ((HP.out.set1 (f' := fun i => .int .u32 ((if i < j then pastW E i else if i = j then lastW E j q else 0 : Nat))) _ hlt (by simp) (fun i _ hi => ?_)).alloc _), ?_, ?_, ?_⟩
        · simp only [pastF]; by_cases h : i < j <;> simp [h, hi]
        · exact World.cell?_alloc_at _ _ _ _ hsz.symm
        · exact World.cell?_alloc_at _ _ _ _ hsz.symm
        · exact World.cell?_alloc_at _ _ _ _ hsz.symm
      have HLT := Lib.hid (words_lt E j)
      have HJ : Hid (2 ^ j ≤ 1073741824) := Nat.pow_le_pow_right (n := 2) (by omega) (show j ≤ 30 by omega)
      rcases (by omega : E.k j = 1 ∨ E.k j = 2 ∨ E.k j = 3) with h3 | h3 | h3
      · rw [h3] at c1
        have HK := Lib.hid h3
        clear h3 hk hm
        go_wp2
        clear c0 c1 c2 hl1 hl2 hp1 hp2
        have hps := (HW0.out 1).drew
        generalize hW : ((wr.setCell ⟨w.heap.size + 2, j, none⟩ (.int .u32 (lastW E j q : Nat))).alloc (.cells #[.int .i64 q, .int .i64 1, .int .i64 (E.m j)] 32)).drew = W at hps
        have HPS := Lib.hid hps; clear hps
        have HPW : Hid (pastW E j = lastW E j q) := by show pastW E j = _; rw [pastW, if_neg (by rw [HK.out]; omega), HQ.out, Nat.or_zero]
        rw [← HPW.out] at HPS
        obtain ⟨hc1, hf1⟩ := HPS.out.past.at1 hlt
        simp only [Nat.lt_irrefl, if_false, if_true] at hc1
        obtain ⟨hc2, hf2⟩ := HPS.out.last.at1 hqn
        have he0 := HPS.out.e0
        have he1 := HPS.out.e1
        refine region_tail 11 (by kernel_rfl) (by kernel_rfl) _ hW ?_
        simp only [List.take_succ_cons, List.take_zero, List.drop_succ_cons, List.drop_zero]
        repeat still_step
        refine wpStill_nil ?_
        have hlast := HPS.out.setLast hqn (.int .u32 (bits .or .u32 (pastW E j) (2 ^ j % 4294967296))) (pastW E j ||| 2 ^ j) (congrArg _ (or_pow (by have := HLT.out.2.2; have := HJ.out; omega) (by omega))) (fun i => lastW E (j + 1) i) (by rw [lastW_succ, if_pos HQ.out.symm]) (fun t ht => by rw [lastW_succ, if_neg (by rw [HQ.out]; omega)])
        have HL2 := Lib.hid hlast; clear hlast
        clear hW
        go_wp2
        have HSS : Hid (sentF E (j + 1) = sentF E j) := by
          funext x
          simp only [sentF]
          rw [sentW_succ, if_neg (fun h => by have := h.1; rw [HK.out] at this; omega)]
        go_roundw
        case rel =>
          refine ⟨j + 1, by omega, by go_num, HL2.out.below, Nat.lt_trans HL2.out.hg HL2.out.hgs, HL2.out.last, by show MapI _ _ _ _ _ _ _ _ _; rw [HSS.out]; exact HL2.out.sent.mono (by omega), HL2.out.past.congr1 fun i _ => ?_⟩
          simp only [pastF]
          by_cases h1 : i < j
          · rw [if_pos h1, if_pos (by omega)]
          · by_cases h2 : i = j
            · subst h2; simp
            · rw [if_neg h1, if_neg h2, if_neg (by omega)]
        case measure => simp [intOf]; omega
      · rw [h3] at c1
        have HK := Lib.hid h3
        obtain ⟨⟨hm0, hm1⟩, _⟩ := hm (by omega)
        clear h3 hk hm
        go_wp2
        clear c0 c1 c2 hl1 hl2 hp1 hp2
        have hps := (HW0.out 2).drew
        generalize hW : ((wr.setCell ⟨w.heap.size + 2, j, none⟩ (.int .u32 (lastW E j q : Nat))).alloc (.cells #[.int .i64 q, .int .i64 2, .int .i64 (E.m j)] 32)).drew = W at hps
        have HPS := Lib.hid hps; clear hps
        have HPW : Hid (pastW E j = lastW E j q) := by show pastW E j = _; rw [pastW, if_neg (by rw [HK.out]; omega), HQ.out, Nat.or_zero]
        rw [← HPW.out] at HPS
        obtain ⟨hc1, hf1⟩ := HPS.out.past.at1 hlt
        simp only [Nat.lt_irrefl, if_false, if_true] at hc1
        obtain ⟨hc2, hf2⟩ := HPS.out.last.at1 hqn
        have he0 := HPS.out.e0
        have he1 := HPS.out.e1
        refine region_tail 11 (by kernel_rfl) (by kernel_rfl) _ hW ?_
        simp only [List.take_succ_cons, List.take_zero, List.drop_succ_cons, List.drop_zero]
        repeat still_step
        refine wpStill_nil ?_
        have hlast := HPS.out.setLast hqn (.int .u32 (bits .or .u32 (pastW E j) (2 ^ j % 4294967296))) (pastW E j ||| 2 ^ j) (congrArg _ (or_pow (by have := HLT.out.2.2; have := HJ.out; omega) (by omega))) (fun i => lastW E (j + 1) i) (by rw [lastW_succ, if_pos HQ.out.symm]) (fun t ht => by rw [lastW_succ, if_neg (by rw [HQ.out]; omega)])
        have HL2 := Lib.hid hlast; clear hlast
        clear hW
        go_wp2
        have hps := HL2.out.drew
        clear hc1 hf1 hc2 hf2 he0 he1
        generalize hW : (World.setCell _ ⟨w.heap.size, q, none⟩ (.int .u32 (bits .or .u32 (pastW E j) (2 ^ j % 4294967296)))).drew = W3 at hps
        have HP3 := Lib.hid hps; clear hps
        obtain ⟨hc2, hf2⟩ := HP3.out.last.at1 hqn
        have he0 := HP3.out.e0
        have he2 := HP3.out.e2
        have HLV : Hid (lastW E (j + 1) q = pastW E j ||| 2 ^ j) := by show lastW E (j + 1) q = _; rw [lastW_succ, if_pos HQ.out.symm]
        rw [HLV.out] at hc2
        refine region_tail 8 (by kernel_rfl) (by kernel_rfl) _ hW ?_
        simp only [List.take_succ_cons, List.take_zero, List.drop_succ_cons, List.drop_zero]
        repeat still_step
        refine wpStill_nil ?_
        refine wpList_mput (by rfl) _ _ _ 52 (by rfl) keyInt Try.underlying3 Try.underlying52 Try.underlying41 (by rfl) HP3.out.sent (by unfold maxLen; omega) (E.m j) ((pastW E j ||| 2 ^ j : Nat)) (by rfl) (by rfl) (WalkArith.wf_i64 (by omega)) ?_ (sentF E (j + 1)) ?_ ?_ ?_
        · have h1 : pastW E j ||| 2 ^ j < 4294967296 := Nat.or_lt_two_pow (n := 32) (by have := HLT.out.2.2; have := HJ.out; omega) (by have := HJ.out; omega)
          exact WalkArith.wf_u32 (by omega)
        · simp only [sentF]; rw [sentW_succ, if_pos ⟨HK.out, rfl⟩]
        · intro y hy; simp only [sentF]; rw [sentW_succ, if_neg (fun h => hy h.2)]
        intro w4 hm4 hg4
        have HM4 := Lib.hid hm4
        have HG4 := Lib.hid hg4
        clear hm4 hg4 hc2 hf2 he0 he2 hW
        go_wp2
        go_roundw
        case rel =>
          have hz2 := HP3.out.hg
          have hz3 := HP3.out.hgs
          refine ⟨j + 1, by omega, by go_num, HP3.out.below.grown HG4.out (by omega) (by intro k hk; cases hk; omega), by have := HG4.out.size; omega, HP3.out.last.grown HG4.out (.inr (by simp [ablock])), HM4.out, (HP3.out.past.grown HG4.out (.inr (by simp [ablock]))).congr1 fun i _ => ?_⟩
          simp only [pastF]
          by_cases h1 : i < j
          · rw [if_pos h1, if_pos (by omega)]
          · by_cases h2 : i = j
            · subst h2; simp
            · rw [if_neg h1, if_neg h2, if_neg (by omega)]
        case measure => simp [intOf]; omega
      · rw [h3] at c1
        have HK := Lib.hid h3
        obtain ⟨⟨hm0, hm1⟩, _⟩ := hm (by omega)
        clear h3 hk hm
        go_wp2
        clear c0 c1 c2 hl1 hl2 hp1 hp2
        have hps := (HW0.out 3).drew
        generalize hW : ((wr.setCell ⟨w.heap.size + 2, j, none⟩ (.int .u32 (lastW E j q : Nat))).alloc (.cells #[.int .i64 q, .int .i64 3, .int .i64 (E.m j)] 32)).drew = W at hps
        have HPS := Lib.hid hps; clear hps
        obtain ⟨hc1, hf1⟩ := HPS.out.past.at1 hlt
        simp only [Nat.lt_irrefl, if_false, if_true] at hc1
        have he2 := HPS.out.e2
        have hlk := (HPS.out.sent.look keyInt Try.underlying3 Try.underlying52 Try.underlying41 (zeroU32 _) (E.m j) (WalkArith.wf_i64 (by omega))).1
        refine region_tail 10 (by kernel_rfl) (by kernel_rfl) W hW ?_
        simp only [List.take_succ_cons, List.take_zero, List.drop_succ_cons, List.drop_zero]
        repeat still_step
        refine wpStill_nil ?_
        go_wp2
        clear hc1 hf1 he2 hlk
        have HPW : Hid (pastW E j = lastW E j q ||| sentW E j (E.m j)) := by show pastW E j = _; rw [pastW, if_pos HK.out, HQ.out]
        have hps := (HPS.out.setPast hlt (.int .u32 (bits .or .u32 (lastW E j q) (sentF E j (E.m j)))) (pastW E j) (by rw [HPW.out]; exact congrArg _ (u32_or_nat _ _ (by have := HLT.out.1 q; have := HJ.out; omega) (by have := HLT.out.2.1 (E.m j); have := HJ.out; omega))) (fun i => if i < j then pastW E i else if i = j then pastW E j else 0) (by simp) (fun t ht => by simp [ht])).drew
        clear hW
        generalize hW : (W.setCell ⟨w.heap.size + 2, j, none⟩ (.int .u32 (bits .or .u32 (lastW E j q) (sentF E j (E.m j))))).drew = W2 at hps
        have HPS := Lib.hid hps; clear hps
        obtain ⟨hc1, hf1⟩ := HPS.out.past.at1 hlt
        simp only [Nat.lt_irrefl, if_false, if_true] at hc1
        obtain ⟨hc2, hf2⟩ := HPS.out.last.at1 hqn
        have he0 := HPS.out.e0
        have he1 := HPS.out.e1
        refine region_tail 11 (by kernel_rfl) (by kernel_rfl) _ hW ?_
        simp only [List.take_succ_cons, List.take_zero, List.drop_succ_cons, List.drop_zero]
        repeat still_step
        refine wpStill_nil ?_
        have hlast := HPS.out.setLast hqn (.int .u32 (bits .or .u32 (pastW E j) (2 ^ j % 4294967296))) (pastW E j ||| 2 ^ j) (congrArg _ (or_pow (by have := HLT.out.2.2; have := HJ.out; omega) (by omega))) (fun i => lastW E (j + 1) i) (by rw [lastW_succ, if_pos HQ.out.symm]) (fun t ht => by rw [lastW_succ, if_neg (by rw [HQ.out]; omega)])
        have HL2 := Lib.hid hlast; clear hlast
        clear hW
        go_wp2
        have HSS : Hid (sentF E (j + 1) = sentF E j) := by
          funext x
          simp only [sentF]
          rw [sentW_succ, if_neg (fun h => by have := h.1; rw [HK.out] at this; omega)]
        go_roundw
        case rel =>
          refine ⟨j + 1, by omega, by go_num, HL2.out.below, Nat.lt_trans HL2.out.hg HL2.out.hgs, HL2.out.last, by show MapI _ _ _ _ _ _ _ _ _; rw [HSS.out]; exact HL2.out.sent.mono (by omega), HL2.out.past.congr1 fun i _ => ?_⟩
          simp only [pastF]
          by_cases h1 : i < j
          · rw [if_pos h1, if_pos (by omega)]
          · by_cases h2 : i = j
            · subst h2; simp
            · rw [if_neg h1, if_neg h2, if_neg (by omega)]
        case measure => simp [intOf]; omega
    · obtain rfl : j = len := by omega
      go_wp2
      go_ret
      exact ⟨rfl, HP.out, HBr.out⟩
end Go.Proofs.Ythonnpimfidkdaa
