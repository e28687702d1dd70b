/- The walk of vector.Vectors. -/
import Derived.Test.YtkdookhblbjddaaVecMath
import Derived.Test.YtkdookhblbjddaaLongest
import Derived.Test.YtkdookhblbjddaaLayM
import Derived.Test.YtkdookhblbjddaaEMap
set_option linter.unusedVariables false
set_option linter.unusedSimpArgs false
namespace Go.Proofs.Ytkdookhblbjddaa
open Go.RowKit Go.Maps

/-- A vector's row. -/
abbrev vrow (g cap n : Nat) (f : Nat → Nat) : LRow := lst (some ⟨g, 0, none⟩) 3 n cap (numN f)
/-- The value is a slice of one of the rows, which holds f. -/
def InV (VR : List LRow) (n : Nat) (v : Value) (f : Nat → Nat) : Prop := ∃ (k g cap : Nat), VR[k]? = some (vrow g cap n f) ∧ v = .slice (some ⟨g, 0, none⟩) n cap
theorem InV.cons {VR : List LRow} {n : Nat} {v : Value} {f : Nat → Nat} (h : InV VR n v f) (r : LRow) : InV (r :: VR) n v f := by
  obtain ⟨k, g, cap, h1, h2⟩ := h
  exact ⟨k + 1, g, cap, h1, h2⟩
theorem InV.zero (VR : List LRow) (n g cap : Nat) (f : Nat → Nat) : InV (vrow g cap n f :: VR) n (.slice (some ⟨g, 0, none⟩) n cap) f := ⟨0, g, cap, rfl, rfl⟩
section
variable {w0 w : World} {L : List LRow} {Q : List MRow} {x y a b : LRow}
theorem Lay.rot4 (h : Lay w0 w (x :: y :: a :: b :: L)) : Lay w0 w (a :: b :: x :: y :: L) := by
  refine h.pick (fun k => if k = 0 then 2 else if k = 1 then 3 else if k = 2 then 0 else if k = 3 then 1 else k) (fun i j _ _ e => ?_) (fun k _ => ?_)
  · repeat' split at e
    all_goals omega
  · rcases k with _ | _ | _ | _ | k
    all_goals first | rfl | simp
theorem Lay.drop1 (h : Lay w0 w (x :: y :: L)) : Lay w0 w (x :: L) := h.swap.tail
theorem LayM.rot4 (h : LayM w0 w (x :: y :: a :: b :: L) Q) : LayM w0 w (a :: b :: x :: y :: L) Q := h.step h.lay.rot4 (.refl _)
theorem LayM.drop1 (h : LayM w0 w (x :: y :: L) Q) : LayM w0 w (x :: L) Q := h.step h.lay.drop1 (.refl _)
theorem LayM.join {w' : World} {L' : List LRow} (h : LayM w0 w L Q) (h' : Lay w w' L') : LayM w0 w' (L' ++ L) Q := h.step (h.lay.join h') (.below h'.bel)
theorem LayM.loose {bm : Nat} {φ φ' : Array MapEntry → Nat → Prop} (h : LayM w0 w L [⟨bm, φ⟩]) (hφ : ∀ es c, φ es c → φ' es c) : LayM w0 w L [⟨bm, φ'⟩] := by
  refine ⟨h.lay, fun i q hi => ?_, fun i j q r hij hi hj => ?_⟩
  · rcases i with _ | i
    · obtain rfl : (⟨bm, φ'⟩ : MRow) = q := by simpa using hi
      obtain ⟨h1, es, c, h2, h3⟩ := h.map 0 ⟨bm, φ⟩ rfl
      exact ⟨h1, es, c, h2, hφ es c h3⟩
    · simp at hi
  · rcases i with _ | i
    · rcases j with _ | j
      · exact absurd rfl hij
      · simp at hj
    · simp at hi
end
theorem wpList_mupd {P : Program} {w w' : World} {ops : Array Oper} {rest : List Oper} {o : Oper} {a : Act} {Q : Exit → Act → World → Prop} (hgd : o.guard = none) (mo xo vo : Operand) (t : TypeId) (hop : o.op = Op.mapUpdate t mo xo vo)
    {mv xv vv : Value} (hm : a.eval mo = mv) (hx : a.eval xo = xv) (hv : a.eval vo = vv) (hrun : (Instr.mapUpdate t mv xv vv).run P w = .ok () w') (hK : wpList P ops Q rest (a.put o.dst undef) w') : wpList P ops Q (o :: rest) a w := by
  refine wpList_plain hgd fun K' hK' => ?_
  unfold Oper.wp
  simp [execOp, hop, hm, hx, hv, hrun, Result.andThen]
  exact hK' _ _ hK
def keyI (x : Int) : Value := .int .i64 x
theorem keyI_inj (x y : Int) (h : keyI x = keyI y) : x = y := by
  unfold keyI at h
  injection h
theorem zeroInts (w : World) : (zeroValue 34).run Try.prog w = .ok (.slice none 0 0) w := by kernel_rfl
/-- What the map of the sent holds. -/
def senφ (E : Ev) (n j : Nat) (VR : List LRow) (es : Array MapEntry) (c : Nat) : Prop :=
  ∃ nm sF, EMap Try.prog 3 (.slice none 0 0) keyI (fun _ => True) nm sF es c ∧ ∀ x, stE E j x ≠ 0 → InV VR n (sF x) (senV E j x)
theorem senφ_cons {E : Ev} {n j : Nat} {VR : List LRow} {es : Array MapEntry} {c : Nat} (h : senφ E n j VR es c) (r : LRow) : senφ E n j (r :: VR) es c := by
  obtain ⟨nm, sF, h1, h2⟩ := h
  exact ⟨nm, sF, h1, fun x hx => (h2 x hx).cons r⟩
theorem senφ_more {E : Ev} {n j : Nat} {VR : List LRow} {es : Array MapEntry} {c : Nat} (h : senφ E n j VR es c) (r : LRow) (hk : E.k j ≠ 2) (h3 : E.k j ≠ 1 → stE E j (E.m j) ≠ 0) : senφ E n (j + 1) (r :: VR) es c := by
  obtain ⟨nm, sF, h1, h2⟩ := h
  refine ⟨nm, sF, h1, fun x hx => ?_⟩
  rw [senV_succ, if_neg (fun h => hk h.1)]
  refine (h2 x ?_).cons r
  intro h0
  rw [stE] at hx
  split at hx
  · rename_i hc
    have := h3 hc.1
    rw [← hc.2] at this
    exact this h0
  · exact hx h0
theorem sen_look {w0 w : World} {L : List LRow} {bm n j : Nat} {E : Ev} {VR : List LRow} (h : LayM w0 w L [⟨bm, senφ E n j VR⟩]) (x : Int) (hx : (Lit.int .i64 x).wf = true) (hs : stE E j x ≠ 0) :
    ∃ v, (Instr.lookup 59 (.map (some bm)) (keyI x) false).run Try.prog w = .ok v w ∧ InV VR n v (senV E j x) := by
  obtain ⟨es, c, hb, nm, sF, hφ, hf⟩ := h.mp 0 rfl
  exact ⟨sF x, EMap.look hφ hb keyInt Try.underlying59 (zeroInts w) x (keyOf_int_mk Try.underlying3 hx), hf x hs⟩
theorem sen_put {w0 w : World} {L : List LRow} {bm n j : Nat} {E : Ev} {VR : List LRow} (h : LayM w0 w L [⟨bm, senφ E n j VR⟩]) (hx : (Lit.int .i64 (E.m j)).wf = true) (hk : E.k j = 2) (r : LRow) (v : Value) (hv : InV (r :: VR) n v (vecV E j)) :
    ∃ w', (Instr.mapUpdate 59 (.map (some bm)) (keyI (E.m j)) v).run Try.prog w = .ok () w' ∧ LayM w0 w' L [⟨bm, senφ E n (j + 1) (r :: VR)⟩] := by
  obtain ⟨es, c, hb, nm, sF, hφ, hf⟩ := h.mp 0 rfl
  obtain ⟨es', c', h1, h2⟩ := EMap.update hφ hb keyInt Try.underlying59 keyI_inj (E.m j) trivial (keyOf_int_mk Try.underlying3 hx) v
  refine ⟨_, h1, h.setM 0 rfl es' c' _ ⟨nm + 1, _, h2, fun x hx => ?_⟩⟩
  rw [senV_succ]
  unfold fput
  by_cases hxm : x = E.m j
  · rw [if_pos hxm, if_pos ⟨hk, hxm⟩]; exact hv
  · rw [if_neg hxm, if_neg (fun h => hxm h.2)]
    refine (hf x ?_).cons r
    rw [stE, if_neg (fun h => hxm h.2)] at hx
    exact hx
def slV (F : Nat → Value) (i : Nat) : Value := F i
/-- All vectors, in memory. -/
def AllV (w w' : World) (n len : Nat) (E : Ev) (v : Value) : Prop :=
  ∃ (VR : List LRow) (Ao : Option Addr) (co : Nat) (oF : Nat → Value), v = .slice Ao len co ∧ Lay w w' (lst Ao 34 len co oF :: VR) ∧ ∀ i, i < len → InV VR n (oF i) (vecV E i)
theorem vectors_bad (n : Int) (A : Option Addr) (len cap B : Nat) (E : Ev) (w : World) (hm : len ≤ maxLen) (hB : B ≤ w.heap.size) (hr : Rd w B A (len * 3) (evF E)) (hbad : runCode n E len ≠ 0) :
    Calls Try.prog 26 #[.int .i64 n, .slice A len cap] w fun e w' => e = .returned (.tuple #[.slice none 0 0, .int .i64 (runCode n E len)]) ∧ Below w.heap.size w w' := by
  have HC := Lib.hid (check_any n A len cap B E w hm hB hr)
  have hb' : (runCode n E len == 0) = false := beq_eq_false_iff_ne.2 hbad
  have hb2 : (runCode n E len != 0) = true := bne_iff_ne.2 hbad
  clear hbad hr
  go_enter Try.func26, Try.ntmps26
  go_wp2_with fail
  refine HC.out.mono ?_
  rintro e w1 ⟨rfl, hb1⟩
  have HB1 := Lib.hid hb1; clear hb1
  go_wp2
  go_ret2
  exact ⟨rfl, HB1.out⟩
theorem infoSl : (Try.prog.info? 34).map (fun i => (i.zero, i.size, i.bytes)) = some (some (.slice none 0 0), 1, 24) := by kernel_rfl
set_option maxRecDepth 100000 in
set_option maxHeartbeats 4000000 in
theorem vectors_good (n : Nat) (A : Option Addr) (len cap : Nat) (E : Ev) (w : World) (hr : Rd w w.heap.size A (len * 3) (evF E)) (hg : runCode n E len = 0) :
    Calls Try.prog 26 #[.int .i64 (n : Nat), .slice A len cap] w (Gives fun v w' => ∃ u, v = .tuple #[u, .int .i64 0] ∧ AllV w w' n len E u) := by
  have HG := Lib.hid hg
  obtain ⟨⟨n1, n6, h30⟩, hok⟩ := runCode_ok hg
  have HOK := Lib.hid hok; clear hok
  have HC := Lib.hid (check_any n A len cap w.heap.size E w (by unfold maxLen; omega) (Nat.le_refl _) hr)
  have HR := Lib.hid hr
  clear hg hr
  have hmm := @run_makeMap Try.prog
  obtain ⟨iI, hiI, hzI0, hzI1, hzI2⟩ := info_parts infoIV
  obtain ⟨iS, hiS, hzS0, hzS1, hzS2⟩ := info_parts infoSl
  go_enter Try.func26, Try.ntmps26
  go_wp2_with fail
  refine (int_is_b HC.out HG.out).mono ?_
  rintro e w1 ⟨rfl, hb⟩
  have HL1 := Lib.hid ((Lay.nil w).keep hb); clear hb HC
  go_wp2_with (first
    | (at_make; refine wpList_mk1 rfl (.tmp 20) (.tmp 20) _ rfl 34 iS _ 24 Try.underlying45 hiS hzS0 hzS1 hzS2 rfl .i64 .i64 n rfl rfl (by omega) (by unfold maxLen; omega) w.heap.size _ rfl HL1.out.size ?_
       intro w2 ho2 he2
       have HL2 : Hid (Lay w w2 [arr w1.heap.size 34 n (slV fun _ => .slice none 0 0)]) := by rw [he2]; exact HL1.out.make (.slice none 0 0) rfl n (by unfold maxLen; omega) _ _ (fun _ _ => rfl) _ rfl
       clear ho2 he2
       generalize w1.heap.size = gc at HL2 ⊢)
    | fail)
  clear HL1
  go_loopw [24] (fun y wr => ∃ (i : Nat) (VR : List LRow) (cF : Nat → Value), y = .int .i64 i ∧ i ≤ n ∧ Hid (Lay w wr (arr gc 34 n (slV cF) :: VR)) ∧ Hid (∀ q, q < i → InV VR n (cF q) (fun _ => 0))) (fun y _ => n - (intOf y).toNat)
  case atStart => exact ⟨0, [], _, rfl, by omega, HL2, Lib.hid fun q hq => absurd hq (by omega)⟩
  case round =>
    clear HL2
    obtain ⟨i, VR, cF, rfl, hi, HL, HV⟩ := hrel
    by_cases hlt : i < n
    · have hc0 := HL.out.cell1 0 rfl hlt
      have hf0 := HL.out.frz 0 rfl (by omega) i
      have hga := (HL.out.at_ 0 rfl).2
      have hzz := HL.out.size
      go_wp2_with (first
        | (at_make; refine wpList_mk1 rfl (.tmp 29) (.tmp 29) _ rfl 3 iI _ 8 Try.underlying34 hiI hzI0 hzI1 hzI2 rfl .i64 .i64 n rfl rfl (by omega) (by unfold maxLen; omega) w.heap.size _ rfl HL.out.size ?_
           intro w2 ho2 he2
           have HL2 : Hid (Lay w w2 (vrow wr.heap.size n n (fun _ => 0) :: arr gc 34 n (slV cF) :: VR)) := by rw [he2]; exact HL.out.make (.int .i64 0) rfl n (by unfold maxLen; omega) _ _ (fun _ _ => rfl) _ rfl
           clear ho2 he2 hc0 hf0 hga
           have hc0 := HL2.out.cell1 1 rfl hlt
           have hf0 := HL2.out.frz 1 rfl (by omega) i
           have hga := (HL2.out.at_ 1 rfl).2
           generalize wr.heap.size = gv at HL2 ⊢)
        | fail)
      go_roundw
      case rel =>
        refine ⟨i + 1, vrow gv n n (fun _ => 0) :: VR, upd cF i (.slice (some ⟨gv, 0, none⟩) n n), by go_num, by omega, Lib.hid ?_, Lib.hid fun q hq => ?_⟩
        · exact (HL2.out.upd (mk := fun v : Value => v) (s := cF) 1 (.slice (some ⟨gv, 0, none⟩) n n) rfl hlt).swap
        · rw [upd_apply]
          by_cases e : q = i
          · rw [if_pos e]; exact InV.zero VR n gv n _
          · rw [if_neg e]; exact (HV.out q (by omega)).cons _
      case measure => simp [intOf]; omega
    · obtain rfl : n = i := by omega
      clear hlt hi
      have HL1 := Lib.hid HL.out
      have HM0 : Hid (LayM w (wr.alloc (.map #[] 0)) (arr gc 34 n (slV cF) :: lst none 34 0 0 (slV fun _ => undef) :: VR) [⟨wr.heap.size, senφ E n 0 VR⟩]) := Lib.hid (((HL.out.lnil 34 1 _).swap).toM.newM _ ⟨0, _, EMap.empty _ _ _ _ _, fun x hx => absurd rfl hx⟩ _ rfl)
      go_wp2
      generalize wr.heap.size = bm at HM0 ⊢
      clear HL HL1
      go_loopw [10, 36] (fun o y wr => ∃ (j : Nat) (VR : List LRow) (cF : Nat → Value) (Ao : Option Addr) (co : Nat) (oF : Nat → Value), y = .int .i64 j ∧ j ≤ len ∧ o = .slice Ao j co ∧ Hid (LayM w wr (arr gc 34 n (slV cF) :: lst Ao 34 j co (slV oF) :: VR) [⟨bm, senφ E n j VR⟩]) ∧ Hid (∀ q : Nat, q < n → InV VR n (cF q) (clkV E j q)) ∧ Hid (∀ t, t < j → InV VR n (oF t) (vecV E t))) (fun _ y _ => len - (intOf y).toNat)
      case atStart => exact ⟨0, VR, cF, none, 0, _, rfl, by omega, rfl, HM0, HV, Lib.hid fun t ht => absurd ht (by omega)⟩
      case round =>
        clear HM0 HV
        obtain ⟨j, VR, cF, Ao, co, oF, rfl, hj, rfl, HL, HCV, HOV⟩ := hrel
        by_cases hlt : j < len
        · obtain ⟨ad, rfl, hbl, e0, e1, e2⟩ := (HR.out.below HL.out.lay.bel).rec3 hlt
          have hbl2 : (ad.add (j * 3)).block < wr.heap.size := by have := HL.out.size; rw [addr_block]; omega
          obtain ⟨q, hq, hqn⟩ := ev_proc HG.out hlt
          obtain ⟨_, ⟨hk1, hk3⟩, hmm2⟩ := evCode_ok (HOK.out j hlt)
          have HQ := Lib.hid hq
          have HV := Lib.hid (vok (fun t ht => (evCode_ok (HOK.out t ht)).1.1) (show j ≤ len by omega))
          rw [hq] at e0
          clear hq
          obtain ⟨kc, g1, cap1, hkc, hv1⟩ := HCV.out q hqn
          have c0 := HL.out.lay.cell1 0 rfl hqn
          unfold slV at c0
          rw [hv1] at c0
          have hgc := (HL.out.lay.at_ 0 rfl).2
          have HEV : Hid (∀ t, t < 3 → (wr.alloc (.cells #[.int .i64 (q : Nat), .int .i64 (E.k j), .int .i64 (E.m j)] 29)).cell? ⟨wr.heap.size, t, none⟩ = some (ofL [.int .i64 (q : Nat), .int .i64 (E.k j), .int .i64 (E.m j)] t)) := Lib.hid fun t ht => ((Lay.nil wr).newB [.int .i64 (q : Nat), .int .i64 (E.k j), .int .i64 (E.m j)] 29 3 rfl _ rfl).cellB 0 rfl t ht
          have HCL := Lib.hid (vclone_any n cap1 _ _ (fun t => (clkV E j q t : Nat)) (wr.alloc (.cells #[.int .i64 (q : Nat), .int .i64 (E.k j), .int .i64 (E.m j)] 29)) ⟨by omega, by omega⟩ (Nat.le_refl _) ((HL.out.alloc _).lay.rd1 (kc + 2) hkc))
          clear hkc hv1
          go_wp2_with fail
          refine HCL.out.mono ?_
          rintro e w2 ⟨v, rfl, gx, cx, rfl, hl⟩
          have HL2 : Hid (LayM w w2 (vrow gx cx n (clkV E j q) :: arr gc 34 n (slV cF) :: lst Ao 34 j co (slV oF) :: VR) [⟨bm, senφ E n j VR⟩]) := Lib.hid ((HL.out.alloc _).join hl)
          have d0 : w2.cell? ⟨wr.heap.size, 0, none⟩ = some (.int .i64 (q : Nat)) := (hl.bel.cell (by simp)).trans (HEV.out 0 (by omega))
          have d1 : w2.cell? ⟨wr.heap.size, 1, none⟩ = some (.int .i64 (E.k j)) := (hl.bel.cell (by simp)).trans (HEV.out 1 (by omega))
          have d2 : w2.cell? ⟨wr.heap.size, 2, none⟩ = some (.int .i64 (E.m j)) := (hl.bel.cell (by simp)).trans (HEV.out 2 (by omega))
          have hge1 : wr.heap.size ≠ gx := by
            have := (hl.at_ 0 rfl).1
            simp at this; omega
          have hge2 : wr.heap.size ≠ gc := by omega
          have hze : wr.heap.size < w2.heap.size := by
            have := hl.size
            simp at this; omega
          clear hl HCL HEV e0 e1 e2 c0 HL
          generalize wr.heap.size = ge at d0 d1 d2 hge1 hge2 hze hgc hbl2 ⊢
          have HWM : Hid (E.k j ≠ 1 → (Lit.int .i64 (E.m j)).wf = true) := Lib.hid fun h => by have := hmm2 h; exact WalkArith.wf_i64 (by omega)
          have HST0 : Hid (E.k j ≠ 1 → stE E j (E.m j) = E.k j - 2) := Lib.hid fun h => (hmm2 h).2
          rcases (by omega : E.k j = 1 ∨ E.k j = 2 ∨ E.k j = 3) with h3 | h3 | h3
          · rw [h3] at d1
            have HNK : Hid (E.k j ≠ 2) := Lib.hid (by omega)
            have HST : Hid (E.k j ≠ 1 → stE E j (E.m j) ≠ 0) := Lib.hid fun h => absurd h3 h
            have HL3 : Hid (LayM w w2 (vrow gx cx n (preV E j) :: arr gc 34 n (slV cF) :: lst Ao 34 j co (slV oF) :: VR) [⟨bm, senφ E n j VR⟩]) := Lib.hid (by
              have e : preV E j = clkV E j q := by funext t; rw [preV, if_neg (by omega), HQ.out]
              rw [e]; exact HL2.out)
            clear HL2 hmm2 h3 hk1 hk3
            obtain ⟨w3, hw3⟩ : ∃ w3, w3 = w2 := ⟨_, rfl⟩
            subst hw3
            obtain ⟨gy, hgy⟩ : ∃ gy, gy = gx := ⟨_, rfl⟩
            subst hgy
            obtain ⟨cy, hcy⟩ : ∃ cy, cy = cx := ⟨_, rfl⟩
            subst hcy
            have c1 := HL3.out.lay.cell1 0 rfl hqn
            have f1 := HL3.out.lay.frz 0 rfl (by omega) q
            have ga1 := (HL3.out.lay.at_ 0 rfl).2
            have c2 := HL3.out.lay.cell1 1 rfl hqn
            have f2 := HL3.out.lay.frz 1 rfl (by omega) q
            have ga2 := (HL3.out.lay.at_ 1 rfl).2
            have hne := HL3.out.lay.ne_ 0 1 rfl rfl (by decide)
            unfold numN at c1
            have hpl := Nat.le_trans (pre_le HV.out q) (cntP_le E q j)
            have HL4 : Hid (LayM w ((w3.setCell ⟨gy, q, none⟩ (.int .i64 ((preV E j q : Int) + 1))).setCell ⟨gc, q, none⟩ (.slice (some ⟨gy, 0, none⟩) n cy)) (vrow gy cy n (vecV E j) :: arr gc 34 n (slV (upd cF q (.slice (some ⟨gy, 0, none⟩) n cy))) :: lst Ao 34 j co (slV oF) :: VR) [⟨bm, senφ E n j VR⟩]) := Lib.hid (by
              have h := (HL3.out.upd (mk := fun x : Nat => Value.int .i64 (x : Nat)) 0 (preV E j q + 1) rfl hqn).upd (mk := fun v : Value => v) (s := cF) 1 (.slice (some ⟨gy, 0, none⟩) n cy) rfl hqn
              have e : upd (preV E j) q (preV E j q + 1) = vecV E j := by
                funext t
                rw [upd_apply, vecV, HQ.out]
                by_cases ht : t = q
                · subst ht; rw [if_pos rfl, if_pos rfl]
                · rw [if_neg ht, if_neg (fun e => ht (Int.ofNat_inj.1 e))]; rfl
              rw [e] at h
              exact h)
            have HL5 := Lib.hid (HL4.out.loose (φ' := senφ E n (j + 1) (vrow gy cy n (vecV E j) :: VR)) fun es c h => senφ_more h _ HNK.out HST.out)
            clear HL4 HL3
            go_wp2_with fail
            refine (vclone_any n cy _ _ (fun t => (vecV E j t : Nat)) _ ⟨by omega, by omega⟩ (Nat.le_refl _) (HL5.out.lay.rd1 0 rfl)).mono ?_
            rintro e w6 ⟨v, rfl, gz, cz, rfl, hl⟩
            have HL6 : Hid (LayM w w6 (vrow gz cz n (vecV E j) :: vrow gy cy n (vecV E j) :: arr gc 34 n (slV (upd cF q (.slice (some ⟨gy, 0, none⟩) n cy))) :: lst Ao 34 j co (slV oF) :: VR) [⟨bm, senφ E n (j + 1) (vrow gy cy n (vecV E j) :: VR)⟩]) := Lib.hid (HL5.out.join hl)
            clear hl HL5
            have HRI : Hid (Rd (w6.alloc (.cells #[.slice (some ⟨gz, 0, none⟩) n cz] 34)) (w6.heap.size + 1) (some ⟨w6.heap.size, 0, none⟩) 1 (fun _ => .slice (some ⟨gz, 0, none⟩) n cz)) := Lib.hid (cell_new w6 _ _ (fun _ => .slice (some ⟨gz, 0, none⟩) n cz) _ rfl (one_cell _))
            go_wp2_with (first
              | (at_builtin; refine wpList_ap1 rfl (.tmp 74) (.tmp 77) _ rfl 34 iS _ 24 Try.underlying45 hiS hzS0 hzS1 hzS2 rfl w.heap.size rfl ((HL6.out.alloc _).lay.own 3 _ rfl) rfl (m := 1) HRI.out (fun _ _ => rfl) (slV (fun t => if t = j then .slice (some ⟨gz, 0, none⟩) n cz else oF t)) (fun t ht => by unfold slV; dsimp only; rw [if_neg (by omega)]) (fun t ht => by unfold slV; dsimp only; rw [if_pos (by omega)]) (j + 1) rfl (by unfold maxLen; omega) (by omega) (by have := HL6.out.size; simp; omega) ?_
                 intro A2 cap2 w7 ho2 hg2 he2
                 have HL7 : Hid (LayM w w7 (vrow gz cz n (vecV E j) :: vrow gy cy n (vecV E j) :: arr gc 34 n (slV (upd cF q (.slice (some ⟨gy, 0, none⟩) n cy))) :: lst A2 34 (j + 1) cap2 (slV (fun t => if t = j then .slice (some ⟨gz, 0, none⟩) n cz else oF t)) :: VR) [⟨bm, senφ E n (j + 1) (vrow gy cy n (vecV E j) :: VR)⟩]) := (HL6.out.alloc _).app 3 rfl ho2 hg2 he2
                 clear ho2 hg2 he2)
              | fail)
            go_roundw
            case rel =>
              refine ⟨j + 1, vrow gz cz n (vecV E j) :: vrow gy cy n (vecV E j) :: VR, upd cF q (.slice (some ⟨gy, 0, none⟩) n cy), A2, cap2, _, by go_num, by omega, by go_num, Lib.hid ((HL7.out.loose fun es c h => senφ_cons h _).rot4), Lib.hid fun t ht => ?_, Lib.hid fun t ht => ?_⟩
              · rw [upd_apply, clkV_succ]
                by_cases e : t = q
                · rw [if_pos e, if_pos (by rw [e, HQ.out])]; exact (InV.zero VR n gy cy _).cons _
                · rw [if_neg e, if_neg (fun h => e (Int.ofNat_inj.1 (h.trans HQ.out)))]; exact ((HCV.out t ht).cons _).cons _
              · by_cases e : t = j
                · subst e; simp only [if_true]; exact InV.zero _ n gz cz _
                · rw [if_neg e]; exact ((HOV.out t (by omega)).cons _).cons _
            case measure => simp [intOf]; omega
          · rw [h3] at d1
            have HK := Lib.hid h3
            have HWM := Lib.hid (HWM.out (by omega))
            have HL3 : Hid (LayM w w2 (vrow gx cx n (preV E j) :: arr gc 34 n (slV cF) :: lst Ao 34 j co (slV oF) :: VR) [⟨bm, senφ E n j VR⟩]) := Lib.hid (by
              have e : preV E j = clkV E j q := by funext t; rw [preV, if_neg (by omega), HQ.out]
              rw [e]; exact HL2.out)
            clear HL2 hmm2 h3 hk1 hk3
            obtain ⟨w3, hw3⟩ : ∃ w3, w3 = w2 := ⟨_, rfl⟩
            subst hw3
            obtain ⟨gy, hgy⟩ : ∃ gy, gy = gx := ⟨_, rfl⟩
            subst hgy
            obtain ⟨cy, hcy⟩ : ∃ cy, cy = cx := ⟨_, rfl⟩
            subst hcy
            have c1 := HL3.out.lay.cell1 0 rfl hqn
            have f1 := HL3.out.lay.frz 0 rfl (by omega) q
            have ga1 := (HL3.out.lay.at_ 0 rfl).2
            have c2 := HL3.out.lay.cell1 1 rfl hqn
            have f2 := HL3.out.lay.frz 1 rfl (by omega) q
            have ga2 := (HL3.out.lay.at_ 1 rfl).2
            have hne := HL3.out.lay.ne_ 0 1 rfl rfl (by decide)
            unfold numN at c1
            have hpl := Nat.le_trans (pre_le HV.out q) (cntP_le E q j)
            have HL4 : Hid (LayM w ((w3.setCell ⟨gy, q, none⟩ (.int .i64 ((preV E j q : Int) + 1))).setCell ⟨gc, q, none⟩ (.slice (some ⟨gy, 0, none⟩) n cy)) (vrow gy cy n (vecV E j) :: arr gc 34 n (slV (upd cF q (.slice (some ⟨gy, 0, none⟩) n cy))) :: lst Ao 34 j co (slV oF) :: VR) [⟨bm, senφ E n j VR⟩]) := Lib.hid (by
              have h := (HL3.out.upd (mk := fun x : Nat => Value.int .i64 (x : Nat)) 0 (preV E j q + 1) rfl hqn).upd (mk := fun v : Value => v) (s := cF) 1 (.slice (some ⟨gy, 0, none⟩) n cy) rfl hqn
              have e : upd (preV E j) q (preV E j q + 1) = vecV E j := by
                funext t
                rw [upd_apply, vecV, HQ.out]
                by_cases ht : t = q
                · subst ht; rw [if_pos rfl, if_pos rfl]
                · rw [if_neg ht, if_neg (fun e => ht (Int.ofNat_inj.1 e))]; rfl
              rw [e] at h
              exact h)
            obtain ⟨w5, hput, hl5⟩ := sen_put HL4.out HWM.out HK.out (vrow gy cy n (vecV E j)) (.slice (some ⟨gy, 0, none⟩) n cy) (InV.zero VR n gy cy _)
            unfold keyI at hput
            have HL5 := Lib.hid hl5
            clear hl5 HL4 HL3
            go_wp2_with (first
              | (at_mapUpdate; refine wpList_mupd rfl (.tmp 70) (.tmp 72) (.tmp 73) _ rfl rfl rfl rfl hput ?_)
              | fail)
            clear hput d0 d1 d2 c1 f1 ga1 c2 f2 ga2
            refine (vclone_any n cy _ _ (fun t => (vecV E j t : Nat)) _ ⟨by omega, by omega⟩ (Nat.le_refl _) (HL5.out.lay.rd1 0 rfl)).mono ?_
            rintro e w6 ⟨v, rfl, gz, cz, rfl, hl⟩
            have HL6 : Hid (LayM w w6 (vrow gz cz n (vecV E j) :: vrow gy cy n (vecV E j) :: arr gc 34 n (slV (upd cF q (.slice (some ⟨gy, 0, none⟩) n cy))) :: lst Ao 34 j co (slV oF) :: VR) [⟨bm, senφ E n (j + 1) (vrow gy cy n (vecV E j) :: VR)⟩]) := Lib.hid (HL5.out.join hl)
            clear hl HL5
            have HRI : Hid (Rd (w6.alloc (.cells #[.slice (some ⟨gz, 0, none⟩) n cz] 34)) (w6.heap.size + 1) (some ⟨w6.heap.size, 0, none⟩) 1 (fun _ => .slice (some ⟨gz, 0, none⟩) n cz)) := Lib.hid (cell_new w6 _ _ (fun _ => .slice (some ⟨gz, 0, none⟩) n cz) _ rfl (one_cell _))
            go_wp2_with (first
              | (at_builtin; refine wpList_ap1 rfl (.tmp 74) (.tmp 77) _ rfl 34 iS _ 24 Try.underlying45 hiS hzS0 hzS1 hzS2 rfl w.heap.size rfl ((HL6.out.alloc _).lay.own 3 _ rfl) rfl (m := 1) HRI.out (fun _ _ => rfl) (slV (fun t => if t = j then .slice (some ⟨gz, 0, none⟩) n cz else oF t)) (fun t ht => by unfold slV; dsimp only; rw [if_neg (by omega)]) (fun t ht => by unfold slV; dsimp only; rw [if_pos (by omega)]) (j + 1) rfl (by unfold maxLen; omega) (by omega) (by have := HL6.out.size; simp; omega) ?_
                 intro A2 cap2 w7 ho2 hg2 he2
                 have HL7 : Hid (LayM w w7 (vrow gz cz n (vecV E j) :: vrow gy cy n (vecV E j) :: arr gc 34 n (slV (upd cF q (.slice (some ⟨gy, 0, none⟩) n cy))) :: lst A2 34 (j + 1) cap2 (slV (fun t => if t = j then .slice (some ⟨gz, 0, none⟩) n cz else oF t)) :: VR) [⟨bm, senφ E n (j + 1) (vrow gy cy n (vecV E j) :: VR)⟩]) := (HL6.out.alloc _).app 3 rfl ho2 hg2 he2
                 clear ho2 hg2 he2)
              | fail)
            go_roundw
            case rel =>
              refine ⟨j + 1, vrow gz cz n (vecV E j) :: vrow gy cy n (vecV E j) :: VR, upd cF q (.slice (some ⟨gy, 0, none⟩) n cy), A2, cap2, _, by go_num, by omega, by go_num, Lib.hid ((HL7.out.loose fun es c h => senφ_cons h _).rot4), Lib.hid fun t ht => ?_, Lib.hid fun t ht => ?_⟩
              · rw [upd_apply, clkV_succ]
                by_cases e : t = q
                · rw [if_pos e, if_pos (by rw [e, HQ.out])]; exact (InV.zero VR n gy cy _).cons _
                · rw [if_neg e, if_neg (fun h => e (Int.ofNat_inj.1 (h.trans HQ.out)))]; exact ((HCV.out t ht).cons _).cons _
              · by_cases e : t = j
                · subst e; simp only [if_true]; exact InV.zero _ n gz cz _
                · rw [if_neg e]; exact ((HOV.out t (by omega)).cons _).cons _
            case measure => simp [intOf]; omega
          · rw [h3] at d1
            have HNK : Hid (E.k j ≠ 2) := Lib.hid (by omega)
            have hst := HST0.out (by omega)
            have HST : Hid (E.k j ≠ 1 → stE E j (E.m j) ≠ 0) := Lib.hid fun _ => by omega
            have HPE : Hid (preV E j = fun t => max (clkV E j q t) (senV E j (E.m j) t)) := Lib.hid (by funext t; rw [preV, if_pos h3, HQ.out])
            obtain ⟨vs, hlook, k2, g2, cap2, hk2, hv2⟩ := sen_look HL2.out (E.m j) (HWM.out (by omega)) (HST.out (by omega))
            subst hv2
            unfold keyI at hlook
            have HJO := Lib.hid (vjoin_any n cx _ _ (fun t => (clkV E j q t : Nat)) cap2 _ _ (fun t => (senV E j (E.m j) t : Nat)) w2 ⟨by omega, by omega⟩ (Nat.le_refl _) (Nat.le_refl _) (HL2.out.lay.rd1 0 rfl) (HL2.out.lay.rd1 (k2 + 3) hk2))
            clear hk2 hmm2 h3 hk1 hk3 hst
            go_wp2_with (first
              | (at_lookup; refine wpList_look rfl (.tmp 50) (.tmp 52) _ rfl rfl rfl hlook ?_)
              | fail)
            refine HJO.out.mono ?_
            rintro e w3 ⟨v, rfl, gy, cy, rfl, hl⟩
            have HL3 : Hid (LayM w w3 (vrow gy cy n (preV E j) :: arr gc 34 n (slV cF) :: lst Ao 34 j co (slV oF) :: VR) [⟨bm, senφ E n j VR⟩]) := Lib.hid (by
              have h := (HL2.out.join hl).drop1
              refine h.congr 0 _ rfl fun t _ => ?_
              show Value.int .i64 (max ((clkV E j q t : Nat) : Int) ((senV E j (E.m j) t : Nat) : Int)) = Value.int .i64 ((preV E j t : Nat) : Int)
              rw [HPE.out]
              show Value.int .i64 (max ((clkV E j q t : Nat) : Int) ((senV E j (E.m j) t : Nat) : Int)) = Value.int .i64 ((max (clkV E j q t) (senV E j (E.m j) t) : Nat) : Int)
              congr 1
              omega)
            have hge3 : ge ≠ gy := by
              have := (hl.at_ 0 rfl).1
              omega
            have hze3 : ge < w3.heap.size := by have := hl.size; omega
            have d0' := (hl.bel.cell (p := ⟨ge, 0, none⟩) hze).trans d0
            have d1' := (hl.bel.cell (p := ⟨ge, 1, none⟩) hze).trans d1
            have d2' := (hl.bel.cell (p := ⟨ge, 2, none⟩) hze).trans d2
            clear HL2 hl HJO hlook d0 d1 d2 hge1 hze
            have c1 := HL3.out.lay.cell1 0 rfl hqn
            have f1 := HL3.out.lay.frz 0 rfl (by omega) q
            have ga1 := (HL3.out.lay.at_ 0 rfl).2
            have c2 := HL3.out.lay.cell1 1 rfl hqn
            have f2 := HL3.out.lay.frz 1 rfl (by omega) q
            have ga2 := (HL3.out.lay.at_ 1 rfl).2
            have hne := HL3.out.lay.ne_ 0 1 rfl rfl (by decide)
            unfold numN at c1
            have hpl := Nat.le_trans (pre_le HV.out q) (cntP_le E q j)
            have HL4 : Hid (LayM w ((w3.setCell ⟨gy, q, none⟩ (.int .i64 ((preV E j q : Int) + 1))).setCell ⟨gc, q, none⟩ (.slice (some ⟨gy, 0, none⟩) n cy)) (vrow gy cy n (vecV E j) :: arr gc 34 n (slV (upd cF q (.slice (some ⟨gy, 0, none⟩) n cy))) :: lst Ao 34 j co (slV oF) :: VR) [⟨bm, senφ E n j VR⟩]) := Lib.hid (by
              have h := (HL3.out.upd (mk := fun x : Nat => Value.int .i64 (x : Nat)) 0 (preV E j q + 1) rfl hqn).upd (mk := fun v : Value => v) (s := cF) 1 (.slice (some ⟨gy, 0, none⟩) n cy) rfl hqn
              have e : upd (preV E j) q (preV E j q + 1) = vecV E j := by
                funext t
                rw [upd_apply, vecV, HQ.out]
                by_cases ht : t = q
                · subst ht; rw [if_pos rfl, if_pos rfl]
                · rw [if_neg ht, if_neg (fun e => ht (Int.ofNat_inj.1 e))]; rfl
              rw [e] at h
              exact h)
            have HL5 := Lib.hid (HL4.out.loose (φ' := senφ E n (j + 1) (vrow gy cy n (vecV E j) :: VR)) fun es c h => senφ_more h _ HNK.out HST.out)
            clear HL4 HL3
            go_wp2_with fail
            refine (vclone_any n cy _ _ (fun t => (vecV E j t : Nat)) _ ⟨by omega, by omega⟩ (Nat.le_refl _) (HL5.out.lay.rd1 0 rfl)).mono ?_
            rintro e w6 ⟨v, rfl, gz, cz, rfl, hl⟩
            have HL6 : Hid (LayM w w6 (vrow gz cz n (vecV E j) :: vrow gy cy n (vecV E j) :: arr gc 34 n (slV (upd cF q (.slice (some ⟨gy, 0, none⟩) n cy))) :: lst Ao 34 j co (slV oF) :: VR) [⟨bm, senφ E n (j + 1) (vrow gy cy n (vecV E j) :: VR)⟩]) := Lib.hid (HL5.out.join hl)
            clear hl HL5
            have HRI : Hid (Rd (w6.alloc (.cells #[.slice (some ⟨gz, 0, none⟩) n cz] 34)) (w6.heap.size + 1) (some ⟨w6.heap.size, 0, none⟩) 1 (fun _ => .slice (some ⟨gz, 0, none⟩) n cz)) := Lib.hid (cell_new w6 _ _ (fun _ => .slice (some ⟨gz, 0, none⟩) n cz) _ rfl (one_cell _))
            go_wp2_with (first
              | (at_builtin; refine wpList_ap1 rfl (.tmp 74) (.tmp 77) _ rfl 34 iS _ 24 Try.underlying45 hiS hzS0 hzS1 hzS2 rfl w.heap.size rfl ((HL6.out.alloc _).lay.own 3 _ rfl) rfl (m := 1) HRI.out (fun _ _ => rfl) (slV (fun t => if t = j then .slice (some ⟨gz, 0, none⟩) n cz else oF t)) (fun t ht => by unfold slV; dsimp only; rw [if_neg (by omega)]) (fun t ht => by unfold slV; dsimp only; rw [if_pos (by omega)]) (j + 1) rfl (by unfold maxLen; omega) (by omega) (by have := HL6.out.size; simp; omega) ?_
                 intro A2 cap2 w7 ho2 hg2 he2
                 have HL7 : Hid (LayM w w7 (vrow gz cz n (vecV E j) :: vrow gy cy n (vecV E j) :: arr gc 34 n (slV (upd cF q (.slice (some ⟨gy, 0, none⟩) n cy))) :: lst A2 34 (j + 1) cap2 (slV (fun t => if t = j then .slice (some ⟨gz, 0, none⟩) n cz else oF t)) :: VR) [⟨bm, senφ E n (j + 1) (vrow gy cy n (vecV E j) :: VR)⟩]) := (HL6.out.alloc _).app 3 rfl ho2 hg2 he2
                 clear ho2 hg2 he2)
              | fail)
            go_roundw
            case rel =>
              refine ⟨j + 1, vrow gz cz n (vecV E j) :: vrow gy cy n (vecV E j) :: VR, upd cF q (.slice (some ⟨gy, 0, none⟩) n cy), A2, cap2, _, by go_num, by omega, by go_num, Lib.hid ((HL7.out.loose fun es c h => senφ_cons h _).rot4), Lib.hid fun t ht => ?_, Lib.hid fun t ht => ?_⟩
              · rw [upd_apply, clkV_succ]
                by_cases e : t = q
                · rw [if_pos e, if_pos (by rw [e, HQ.out])]; exact (InV.zero VR n gy cy _).cons _
                · rw [if_neg e, if_neg (fun h => e (Int.ofNat_inj.1 (h.trans HQ.out)))]; exact ((HCV.out t ht).cons _).cons _
              · by_cases e : t = j
                · subst e; simp only [if_true]; exact InV.zero _ n gz cz _
                · rw [if_neg e]; exact ((HOV.out t (by omega)).cons _).cons _
            case measure => simp [intOf]; omega
        · obtain rfl : j = len := by omega
          go_wp2
          go_ret2
          exact ⟨_, rfl, _, rfl, _, Ao, co, slV oF, rfl, (HL.out.lay.tail), fun t ht => HOV.out t ht⟩
end Go.Proofs.Ytkdookhblbjddaa
