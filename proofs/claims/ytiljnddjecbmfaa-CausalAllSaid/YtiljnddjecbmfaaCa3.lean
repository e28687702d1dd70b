/- The walk of causal's 'do'. -/
import Derived.Test.YtiljnddjecbmfaaCa2
import Derived.Test.YtiljnddjecbmfaaCloneI
set_option linter.unusedVariables false
set_option linter.unusedSimpArgs false
namespace Go.Proofs.Ytiljnddjecbmfaa
open Go.RowKit Go.Maps Go.MapKept

theorem infoMsgC : (Try.prog.info? 53).map (fun i => (i.zero, i.size, i.bytes)) = some (some (.agg #[.int .i64 0, .slice none 0 0]), 2, 32) := by kernel_rfl
section
variable {g cl gt gc cc gm cm n : Nat} {AL : Option Addr} {bc : Nat → Nat} {R : List LRow} {w0 w : World} {f : FC → Value} {s : CaS}
theorem qsC_new {i : Nat} (a : FC) : qput (qsC n s) (.inr s.m) (vec n (s.clock i)) a = qsC n (newC i s) a := by
  rcases a with (j | j) | j
  · rw [qput_ne (by simp)]; rfl
  · rw [qput_ne (by simp)]; rfl
  · by_cases e : j = s.m
    · subst e
      rw [qput_same]
      show _ = if s.m < s.m + 1 then vec n (upd s.ahead s.m (s.clock i) s.m) else []
      rw [if_pos (by omega), upd_same]
    · rw [qput_ne (fun h => e (Sum.inr.inj h))]
      show (if j < s.m then vec n (s.ahead j) else []) = if j < s.m + 1 then vec n (upd s.ahead s.m (s.clock i) j) else []
      rw [upd_ne _ _ e]
      by_cases h : j < s.m
      · rw [if_pos h, if_pos (by omega)]
      · rw [if_neg h, if_neg (by omega)]
/-- The new message's vector is cloned. -/
theorem ca_clone {i b cp : Nat} {w' : World} (h : LayC g cl gt gc cc gm cm n AL bc R w0 f s w) (hL : Lay w w' [⟨some ⟨b, 0, none⟩, 3, 1, n, cp, fun o => .int .i64 ((s.clock i o : Nat) : Int)⟩]) :
    LayQ w0 w' (rowsC g 0 cl gt gc cc gm cm n AL bc f s R) (mapsC n bc s) tyC (fput f (.inr s.m) (.slice (some ⟨b, 0, none⟩) n cp)) (qsC n (newC i s)) := by
  refine (LayQ.fresh h (.inr s.m) hL.bel ?_ fun k hk => ?_).sameQ fun a => (qsC_new (i := i) a).symm
  · exact own_qsl ((hL.own 0 _ rfl).base_le h.size) (vec_len _ _) (fun j hj => vec_at _ hj)
  · have e : b = k := Option.some.inj hk
    subst e
    exact (hL.at_ 0 rfl).1
theorem msgF_new {i : Nat} {v : Value} {j : Nat} (hj : j < s.m * 2) : msgF (fput f (.inr s.m) v) (newC i s) j = msgF f s j := by
  unfold msgF
  have h : j / 2 ≠ s.m := by omega
  rw [fput_ne (fun e => h (Sum.inr.inj e))]
  show (if j % 2 = 0 then Value.int .i64 (upd s.by_ s.m i (j / 2) : Nat) else _) = _
  rw [upd_ne _ _ h]
theorem msgF_end {i : Nat} {v : Value} : msgF (fput f (.inr s.m) v) (newC i s) (s.m * 2 + 0) = .int .i64 (i : Nat) ∧ msgF (fput f (.inr s.m) v) (newC i s) (s.m * 2 + 1) = v := by
  unfold msgF
  constructor
  · rw [if_pos (by omega), show (s.m * 2 + 0) / 2 = s.m by omega]
    show Value.int .i64 (upd s.by_ s.m i s.m : Nat) = _
    rw [upd_same]
  · rw [if_neg (by omega), show (s.m * 2 + 1) / 2 = s.m by omega, fput_same]
theorem two_cells (a b : Value) : ∀ j, j < 2 → (#[a, b])[j]? = some (if j = 0 then a else b) := by
  intro j hj
  match j, hj with
  | 0, _ => rfl
  | 1, _ => rfl
theorem ca_mark {i k : Nat} (h : LayC g cl gt gc cc gm cm n AL bc R w0 f s w) (hi : i < n) (hk : k < 1000) :
    ∃ es c, (Instr.mapUpdate 47 (.map (some (bc i))) (.int .i64 (k : Nat)) (.bool true)).run Try.prog w = .ok () (ChangeMaps.setBlock w (bc i) (.map es c)) ∧ LayC g cl gt gc cc gm cm n AL bc R w0 f (markC i k s) (ChangeMaps.setBlock w (bc i) (.map es c)) := by
  obtain ⟨es, c, h1, m, h2⟩ := h.mp i (mapsC_at hi)
  obtain ⟨es', c', h3, h4⟩ := h2.update h1 keyedC Try.underlying47 keyN_inj k trivial (keyOf_int_mk Try.underlying3 (wf_keyN hk)) (.bool true)
  refine ⟨es', c', h3, ?_⟩
  have hf : fput (fun a => Value.bool (s.come i a)) k (.bool true) = fun a => .bool (upd (s.come i) k true a) := funext fun a => by
    unfold fput
    rw [upd_apply]
    split <;> rfl
  rw [hf] at h4
  have h5 := LayQ.setM h i (mapsC_at hi) es' c' (comeE (upd (s.come i) k true)) ⟨_, h4⟩
  have hq : (mapsC n bc s).set i ⟨bc i, comeE (upd (s.come i) k true)⟩ = mapsC n bc (markC i k s) := by
    apply List.ext_getElem?
    intro j
    by_cases hj : j < n
    · rw [mapsC_at hj, List.getElem?_set]
      by_cases e : i = j
      · subst e
        rw [if_pos rfl, if_pos (by simpa using hi)]
        show _ = some (⟨bc i, comeE (upd s.come i (upd (s.come i) k true) i)⟩ : MRow)
        rw [upd_same]
      · rw [if_neg e, mapsC_at hj]
        show _ = some (⟨bc j, comeE (upd s.come i (upd (s.come i) k true) j)⟩ : MRow)
        rw [upd_ne _ _ (fun h => e h.symm)]
    · rw [List.getElem?_eq_none (by simp; omega), List.getElem?_eq_none (by simp; omega)]
  rw [hq] at h5
  exact h5.sameQ fun a => by rcases a with (a | a) | a <;> rfl
end
abbrev ptrC (q g : Nat) : LRow := blk q 42 1 (ofL [.pointer (some ⟨g, 0, none⟩)])
abbrev mvB (q : Nat) (k f t v : Int) : LRow := blk q 34 4 (ofL [.int .i64 k, .int .i64 f, .int .i64 t, .int .i64 v])
theorem clC_is (b : Bool) (i : Int) (n q g : Nat) (w : World) (hN : w.cell? ⟨q, 0, none⟩ = some (.pointer (some ⟨g, 0, none⟩))) (h : w.cell? ⟨g, 0, none⟩ = some (.int .i64 n)) (hb : inB n i = b) :
    Calls Try.prog 15 #[.int .i64 i, .pointer (some ⟨q, 0, none⟩)] w fun e w' => e = .returned (.bool (!b)) ∧ w = w' := by
  subst hb
  by_cases h0 : i < 0
  · go_enter Try.func15, Try.ntmps15
    go_wp2
    go_ret
    exact ⟨ret_bool (by simp [inB, show ¬ 0 ≤ i by omega]), rfl⟩
  · have h0' : 0 ≤ i := by omega
    clear h0
    go_enter Try.func15, Try.ntmps15
    go_wp2
    go_ret
    exact ⟨ret_bool (by rw [Bool.eq_iff_iff]; simp [inB]; first | done | omega), rfl⟩
theorem ca_tellS (n : Nat) (f t v : Int) (s : CaS) : caStep n 1 f t v s = if inB n f = true then (0, sendC f.toNat s) else (2, s) := rfl
theorem ca_comeS (n : Nat) (f t v : Int) (s : CaS) : caStep n 2 f t v s = if inB n t = true then (if inB s.m v = true then (if (s.by_ v.toNat : Int) = t ∨ s.come t.toNat v.toNat = true then (7, s) else (0, comeC n t.toNat v.toNat s)) else (4, s)) else (2, s) := rfl
/-- What the loads of 'a.l = append(a.l, message{..})' read. -/
def SC (g gc n cc qn qm i : Nat) (k f t v : Int) (AL : Option Addr) (m cl : Nat) (u : Value) (w : World) : Prop :=
  w.cell? ⟨qn, 0, none⟩ = some (.pointer (some ⟨g, 0, none⟩)) ∧ w.cell? ⟨qm, 1, none⟩ = some (.int .i64 f) ∧ w.cell? ⟨g, 1, none⟩ = some (.slice AL m cl) ∧ w.cell? ⟨g, 3, none⟩ = some (.slice (some ⟨gc, 0, none⟩) n cc) ∧ w.cell? ⟨gc, i, none⟩ = some u
theorem SC.of {w0 w : World} {L : List LRow} {g gc n cc qn qm i : Nat} {k f t v : Int} {AL : Option Addr} {m cl : Nat} {a b c u : Value} {Fc : Nat → Value} (h : Lay w0 w L) (h0 : L[0]? = some (blk g 46 5 (ofL [a, .slice AL m cl, b, .slice (some ⟨gc, 0, none⟩) n cc, c])))
    (h3 : L[3]? = some ⟨some ⟨gc, 0, none⟩, 32, 1, n, cc, Fc⟩) (h5 : L[5]? = some (mvB qm k f t v)) (h6 : L[6]? = some (ptrC qn g)) (hi : i < n) (hu : Fc i = u) : SC g gc n cc qn qm i k f t v AL m cl u w :=
  ⟨h.cellB 6 h6 0 (by omega), h.cellB 5 h5 1 (by omega), h.cellB 0 h0 1 (by omega), h.cellB 0 h0 3 (by omega), by rw [← hu]; exact h.cell1 3 h3 hi⟩
section
variable (g cl gt gc cc gm cm n : Nat) (AL : Option Addr) (bc : Nat → Nat) (R : List LRow) (w0 : World)
def PostC (w' : World) (s' : CaS) : Prop := ∃ f' cl' AL', LayC g cl' gt gc cc gm cm n AL' bc R w0 f' s' w'
theorem doC_kind (F : FC → Value) (s : CaS) (w : World) (k f t v : Int) (hk : k ≠ 1 ∧ k ≠ 2) (h : LayC g cl gt gc cc gm cm n AL bc R w0 F s w) :
    Calls Try.prog 13 #[.pointer (some ⟨g, 0, none⟩), .agg #[.int .i64 k, .int .i64 f, .int .i64 t, .int .i64 v]] w fun e w' => e = .returned (.int .i64 6) ∧ PostC g gt gc cc gm cm n bc R w0 w' s := by
  have H := Lib.hid h; clear h
  have e1 : (k == 1) = false := by rw [beq_eq_false_iff_ne]; exact hk.1
  have e2 : (k == 2) = false := by rw [beq_eq_false_iff_ne]; exact hk.2
  clear hk
  go_enter Try.func13, Try.ntmps13
  go_wp2
  go_ret
  exact ⟨rfl, F, cl, AL, (H.out.alloc _).alloc _⟩
set_option maxRecDepth 100000 in
set_option maxHeartbeats 3200000 in
theorem doC_tell (F : FC → Value) (s : CaS) (w : World) (j : Nat) (f t v : Int) (hn1 : 1 ≤ n) (hn : n ≤ 6) (hj : j ≤ 90) (hB : CaB n j s) (h : LayC g cl gt gc cc gm cm n AL bc R w0 F s w) :
    Calls Try.prog 13 #[.pointer (some ⟨g, 0, none⟩), .agg #[.int .i64 1, .int .i64 f, .int .i64 t, .int .i64 v]] w fun e w' => e = .returned (.int .i64 (caStep n 1 f t v s).1) ∧ PostC g gt gc cc gm cm n bc R w0 w' (caStep n 1 f t v s).2 := by
  obtain ⟨iM, hiM, hzM0, hzM1, hzM2⟩ := info_parts infoMsgC
  obtain ⟨r, hr⟩ : ∃ r, r = caStep n 1 f t v s := ⟨_, rfl⟩
  rw [← hr]
  rw [ca_tellS] at hr
  have HR := Lib.hid hr
  clear hr
  obtain ⟨b, hb⟩ : ∃ b, inB n f = b := ⟨_, rfl⟩
  have hr := HR.out
  rw [hb] at hr
  replace HR := Lib.hid hr
  clear hr
  have HB := Lib.hid hb
  have H := Lib.hid h; clear h
  have HK := Lib.hid ((((H.out.newB [.pointer (some ⟨g, 0, none⟩)] 42 1 rfl _ rfl).rot5).newB [.int .i64 1, .int .i64 f, .int .i64 t, .int .i64 v] 34 4 rfl _ rfl).rot5)
  go_enter Try.func13, Try.ntmps13
  go_wp2_with fail
  refine at_layQ (F := fun W' => Calls _ _ _ W' _) HK.out ?_
  intro W hW
  have HW : Hid (LayC g cl gt gc cc gm cm n AL bc (mvB (w.heap.size + 1) 1 f t v :: ptrC w.heap.size g :: R) w0 F s W) := Lib.hid (by rw [← size_push w (.cells #[.pointer (some ⟨g, 0, none⟩)] 42)]; exact hW)
  clear hW H HK
  generalize w.heap.size + 1 = qm at HW ⊢
  generalize w.heap.size = qn at HW ⊢
  obtain ⟨c0, c1, c2, c3, c4⟩ := ca_heads HW.out
  have hN : W.cell? ⟨qn, 0, none⟩ = some (.pointer (some ⟨g, 0, none⟩)) := HW.out.lay.cellB 6 rfl 0 (by omega)
  have m0 : W.cell? ⟨qm, 0, none⟩ = some (.int .i64 1) := HW.out.lay.cellB 5 rfl 0 (by omega)
  have m1 : W.cell? ⟨qm, 1, none⟩ = some (.int .i64 f) := HW.out.lay.cellB 5 rfl 1 (by omega)
  have m2 : W.cell? ⟨qm, 2, none⟩ = some (.int .i64 t) := HW.out.lay.cellB 5 rfl 2 (by omega)
  have m3 : W.cell? ⟨qm, 3, none⟩ = some (.int .i64 v) := HW.out.lay.cellB 5 rfl 3 (by omega)
  refine (clC_is _ f n qn g _ hN c0 HB.out).mono ?_
  rintro e w3 ⟨rfl, rfl⟩
  cases b
  · replace HR := Lib.hid (HR.out.trans (if_neg (by simp)))
    go_wp2
    go_ret
    have e9 := HR.out
    subst e9
    exact ⟨rfl, F, cl, AL, HW.out.drop5.drop5⟩
  replace HR := Lib.hid (HR.out.trans (if_pos rfl))
  have hff : 0 ≤ f ∧ f < n := by simpa [inB] using hb
  clear hb
  obtain ⟨i, rfl⟩ := Int.eq_ofNat_of_zero_le hff.1
  have hi : i < n := by omega
  have hr := HR.out
  rw [Int.toNat_natCast] at hr
  replace HR := Lib.hid hr
  clear hr
  clear hff HB
  have HB := Lib.hid hB
  have hmj := hB.m
  clear hB
  obtain ⟨b2, o2, cp2, hfc, hb1, hb2, -⟩ := ca_clock HW.out hi hn1
  have HFC := Lib.hid hfc
  have HRC : Hid (Rd W.drew W.drew.heap.size (some ⟨b2, o2, none⟩) n (fun o => .int .i64 ((s.clock i o : Nat) : Int))) := Lib.hid (by
    have ho := HW.out.drew.own (.inl (.inr i))
    rw [HFC.out, show qsC n s (.inl (.inr i)) = vec n (s.clock i) from if_pos hi] at ho
    exact qsl_vec ho)
  clear hfc c0 c1 c2 c3 c4 hN m0 m1 m2 m3
  have HS0 : Hid (SC g gc n cc qn qm i 1 i t v AL s.m cl (.slice (some ⟨b2, o2, none⟩) n cp2) W.drew) := Lib.hid (SC.of HW.out.drew.lay rfl rfl rfl rfl hi HFC.out)
  go_wp2
  refine wp_held_mask (SC g gc n cc qn qm i 1 i t v AL s.m cl (.slice (some ⟨b2, o2, none⟩) n cp2)) [true, true, true, true, true, true, true, true, true, true, true, true, true, true, true, false, false, false, false, false, false, false] ?A1 (by kernel_rfl) rfl (by kernel_rfl) (by repeat' (first | (with_reducible apply tame_then) | (with_reducible apply tame_block) | (with_reducible apply tame_scope) | exact tame_gives | exact tame_body (fun _ _ h => ⟨_, h.1⟩))) HS0.out ?head ?tail
  case head =>
    intro W5 ⟨s0, s1, s2, s3, s4⟩
    simp only [pick]
    go_wp2
    exact taken
  case tail =>
    simp only [pick, List.map_cons, List.map_nil, Bool.not_true, Bool.not_false]
    refine tail_step ?_
    go_wp2_with fail
    refine (cloneI_lay (some ⟨b2, o2, none⟩) n cp2 W.drew.heap.size (fun o => ((s.clock i o : Nat) : Int)) W.drew hn1 (by omega) (Nat.le_refl _) HRC.out).mono ?_
    rintro e w3 ⟨u, rfl, gb, cpb, rfl, hL⟩
    have HQ := Lib.hid (ca_clone (i := i) HW.out.drew hL)
    have HS3 : Hid (SC g gc n cc qn qm i 1 i t v AL s.m cl (.slice (some ⟨b2, o2, none⟩) n cp2) w3) := Lib.hid (SC.of HQ.out.lay rfl rfl rfl rfl hi HFC.out)
    clear hL HS0 HRC
    go_wp2
    refine holds HS3.out ?_
    refine tail_step ?_
    go_wp2
    refine holds HS3.out ?_
    refine tail_step ?_
    go_wp2
    have HQA := Lib.hid (HQ.out.alloc (.cells #[.int .i64 (i : Nat), .slice (some ⟨gb, 0, none⟩) n cpb] 53))
    refine holds (SC.of HQA.out.lay rfl rfl rfl rfl hi HFC.out) ?_
    refine tail_step ?_
    refine wpList_ap rfl (.tmp 19) (.tmp 32) _ rfl 53 iM _ 2 32 Try.underlying43 hiM hzM0 hzM1 hzM2 rfl (by omega) w0.heap.size rfl (HQA.out.lay.own 1 _ rfl) rfl (m := 1) (cell_new _ _ _ _ _ rfl (two_cells _ _)) (fun j hj => by rcases (by omega : j = 0 ∨ j = 1) with rfl | rfl <;> rfl) (msgF (fput F (.inr s.m) (.slice (some ⟨gb, 0, none⟩) n cpb)) (newC i s)) (fun j hj => msgF_new hj) (fun j hj => by rcases (by omega : j = 0 ∨ j = 1) with rfl | rfl; exact msgF_end.1; exact msgF_end.2) (s.m + 1) rfl (by unfold maxLen; omega) (by omega) HQA.out.size ?_
    intro A2 cap2 w4 ho hg ha
    have H4 := Lib.hid (HQA.out.app 1 rfl ho hg ha)
    clear ho hg ha HQA HQ HS3
    have HS4 : Hid (SC g gc n cc qn qm i 1 i t v AL s.m cl (.slice (some ⟨b2, o2, none⟩) n cp2) w4) := Lib.hid (SC.of H4.out.lay rfl rfl rfl rfl hi HFC.out)
    refine holds HS4.out ?_
    refine tail_step ?_
    go_wp2
    refine holds HS4.out ?_
    refine tail_step ?_
    go_wp2
    refine holds HS4.out ?_
    refine tail_last ?_
    have d1 := HS4.out.2.2.1
    have f1 := H4.out.lay.frz 0 rfl (by omega) 1
    have HL : Hid (LayC g cap2 gt gc cc gm cm n A2 bc (mvB qm 1 i t v :: ptrC qn g :: R) w0 (fput F (.inr s.m) (.slice (some ⟨gb, 0, none⟩) n cpb)) (newC i s) (w4.setCell ⟨g, 1, none⟩ (.slice A2 (s.m + 1) cap2))) := Lib.hid (by
      have h5 := H4.out.fld 0 1 (.slice A2 (s.m + 1) cap2) rfl (by omega) (by simp)
      show LayQ w0 _ (rowsC g 0 cap2 gt gc cc gm cm n A2 bc (fput F (.inr s.m) (.slice (some ⟨gb, 0, none⟩) n cpb)) (newC i s) (mvB qm 1 i t v :: ptrC qn g :: R)) _ tyC _ _
      unfold rowsC
      rw [show (fun j => fput F (.inr s.m) (.slice (some ⟨gb, 0, none⟩) n cpb) (.inl (.inl j))) = fun j => F (.inl (.inl j)) from funext fun j => fput_ne (by simp), show (fun j => fput F (.inr s.m) (.slice (some ⟨gb, 0, none⟩) n cpb) (.inl (.inr j))) = fun j => F (.inl (.inr j)) from funext fun j => fput_ne (by simp)]
      exact h5)
    clear HS4 H4 HW
    have HB2 : Hid (CaB n (j + 1) (newC i s)) := Lib.hid (by
      refine ⟨by have := HB.out.m; show s.m + 1 ≤ _; omega, fun k hk => ?_, fun i x hx => by have := HB.out.told i x hx; show x < s.m + 1; omega, HB.out.nd, HB.out.clock, fun k o hk => ?_⟩
      · show upd s.by_ s.m i k < n
        rw [upd_apply]; split
        · exact hi
        · exact HB.out.by_ k (by have hk : k < s.m + 1 := hk; omega)
      · show upd s.ahead s.m (s.clock i) k o ≤ j + 1
        rw [upd_apply]; split
        · have h1 := HB.out.clock i o
          have h2 := HB.out.len i
          omega
        · have := HB.out.ahead k o (by have hk : k < s.m + 1 := hk; omega); omega)
    go_wp2
    refine at_layQ (F := fun W' => Code.wp _ _ _ _ W') HL.out ?_
    intro W6 hW6
    have H6 := Lib.hid hW6
    clear hW6 HL d1 f1
    generalize fput F (.inr s.m) (.slice (some ⟨gb, 0, none⟩) n cpb) = F6 at H6
    obtain ⟨-, d1, -, -, -⟩ := ca_heads H6.out
    have dN : W6.cell? ⟨qn, 0, none⟩ = some (.pointer (some ⟨g, 0, none⟩)) := H6.out.lay.cellB 6 rfl 0 (by omega)
    have dm : W6.cell? ⟨qm, 1, none⟩ = some (.int .i64 i) := H6.out.lay.cellB 5 rfl 1 (by omega)
    change W6.cell? ⟨g, 1, none⟩ = some (.slice A2 (s.m + 1) cap2) at d1
    have esub : ((s.m : Nat) : Int) + 1 - 1 = (s.m : Nat) := by omega
    have HT := Lib.hid (tell_any g cap2 gt gc cc gm cm n A2 bc (mvB qm 1 i t v :: ptrC qn g :: R) w0 i s.m (j + 1) F6 (newC i s) W6.drew hn1 hn (by omega) HB2.out hi (show s.m < s.m + 1 by omega) H6.out.drew)
    refine wp_text 9 (by kernel_rfl) (by kernel_rfl) (by kernel_rfl) (by repeat' (first | (with_reducible apply tame_then) | (with_reducible apply tame_block) | (with_reducible apply tame_scope) | exact tame_gives | exact tame_body (fun _ _ h => ⟨_, h.1⟩))) ?_
    simp only [List.take_succ_cons, List.take_zero, List.drop_succ_cons, List.drop_zero]
    go_wp2
    refine headed ?_
    go_wp2_with fail
    refine HT.out.mono ?_
    rintro e w7 ⟨rfl, F7, h7⟩
    have H7 := Lib.hid h7
    clear h7
    go_wp2
    go_ret
    have e9 := HR.out
    subst e9
    exact ⟨rfl, F7, cap2, A2, H7.out.drop5.drop5⟩
set_option maxRecDepth 100000 in
set_option maxHeartbeats 3200000 in
theorem doC_come (F : FC → Value) (s : CaS) (w : World) (j : Nat) (f t v : Int) (hn1 : 1 ≤ n) (hn : n ≤ 6) (hj : j ≤ 90) (hB : CaB n j s) (h : LayC g cl gt gc cc gm cm n AL bc R w0 F s w) :
    Calls Try.prog 13 #[.pointer (some ⟨g, 0, none⟩), .agg #[.int .i64 2, .int .i64 f, .int .i64 t, .int .i64 v]] w fun e w' => e = .returned (.int .i64 (caStep n 2 f t v s).1) ∧ PostC g gt gc cc gm cm n bc R w0 w' (caStep n 2 f t v s).2 := by
  obtain ⟨r, hr⟩ : ∃ r, r = caStep n 2 f t v s := ⟨_, rfl⟩
  rw [← hr]
  rw [ca_comeS] at hr
  have HR := Lib.hid hr
  clear hr
  obtain ⟨b, hb⟩ : ∃ b, inB n t = b := ⟨_, rfl⟩
  have hr := HR.out
  rw [hb] at hr
  replace HR := Lib.hid hr
  clear hr
  have HB := Lib.hid hb
  have H := Lib.hid h; clear h
  have HK := Lib.hid ((((H.out.newB [.pointer (some ⟨g, 0, none⟩)] 42 1 rfl _ rfl).rot5).newB [.int .i64 2, .int .i64 f, .int .i64 t, .int .i64 v] 34 4 rfl _ rfl).rot5)
  go_enter Try.func13, Try.ntmps13
  go_wp2_with fail
  refine at_layQ (F := fun W' => Calls _ _ _ W' _) HK.out ?_
  intro W hW
  have HW : Hid (LayC g cl gt gc cc gm cm n AL bc (mvB (w.heap.size + 1) 2 f t v :: ptrC w.heap.size g :: R) w0 F s W) := Lib.hid (by rw [← size_push w (.cells #[.pointer (some ⟨g, 0, none⟩)] 42)]; exact hW)
  clear hW H HK
  generalize w.heap.size + 1 = qm at HW ⊢
  generalize w.heap.size = qn at HW ⊢
  obtain ⟨c0, c1, c2, c3, c4⟩ := ca_heads HW.out
  have hN : W.cell? ⟨qn, 0, none⟩ = some (.pointer (some ⟨g, 0, none⟩)) := HW.out.lay.cellB 6 rfl 0 (by omega)
  have m0 : W.cell? ⟨qm, 0, none⟩ = some (.int .i64 2) := HW.out.lay.cellB 5 rfl 0 (by omega)
  have m1 : W.cell? ⟨qm, 1, none⟩ = some (.int .i64 f) := HW.out.lay.cellB 5 rfl 1 (by omega)
  have m2 : W.cell? ⟨qm, 2, none⟩ = some (.int .i64 t) := HW.out.lay.cellB 5 rfl 2 (by omega)
  have m3 : W.cell? ⟨qm, 3, none⟩ = some (.int .i64 v) := HW.out.lay.cellB 5 rfl 3 (by omega)
  refine (clC_is _ t n qn g _ hN c0 HB.out).mono ?_
  rintro e w3 ⟨rfl, rfl⟩
  cases b
  · replace HR := Lib.hid (HR.out.trans (if_neg (by simp)))
    go_wp2
    go_ret
    have e9 := HR.out
    subst e9
    exact ⟨rfl, F, cl, AL, HW.out.drop5.drop5⟩
  replace HR := Lib.hid (HR.out.trans (if_pos rfl))
  have htt : 0 ≤ t ∧ t < n := by simpa [inB] using hb
  clear hb
  obtain ⟨i, rfl⟩ := Int.eq_ofNat_of_zero_le htt.1
  have hi : i < n := by omega
  have hr := HR.out
  rw [Int.toNat_natCast] at hr
  replace HR := Lib.hid hr
  clear hr
  clear htt HB
  have HB := Lib.hid hB
  have hmj := hB.m
  clear hB
  by_cases hv0 : v < 0
  · have hx : ¬ inB s.m v = true := by simp [inB]; omega
    replace HR := Lib.hid (HR.out.trans (if_neg hx))
    clear hx
    go_wp2
    refine wp_text_all (by kernel_rfl) (by kernel_rfl) (by kernel_rfl) (by repeat' (first | (with_reducible apply tame_then) | (with_reducible apply tame_block) | (with_reducible apply tame_scope) | exact tame_gives | exact tame_body (fun _ _ h => ⟨_, h.1⟩))) ?_
    go_wp2
    refine headed ?_
    go_wp2
    go_ret
    have e9 := HR.out
    subst e9
    exact ⟨rfl, F, cl, AL, HW.out.drew.drop5.drop5⟩
  by_cases hvm : (s.m : Int) ≤ v
  · have hx : ¬ inB s.m v = true := by simp [inB]; omega
    replace HR := Lib.hid (HR.out.trans (if_neg hx))
    clear hx
    go_wp2
    refine wp_text_all (by kernel_rfl) (by kernel_rfl) (by kernel_rfl) (by repeat' (first | (with_reducible apply tame_then) | (with_reducible apply tame_block) | (with_reducible apply tame_scope) | exact tame_gives | exact tame_body (fun _ _ h => ⟨_, h.1⟩))) ?_
    go_wp2
    refine headed ?_
    go_wp2
    go_ret
    have e9 := HR.out
    subst e9
    exact ⟨rfl, F, cl, AL, HW.out.drew.drop5.drop5⟩
  have hx : inB s.m v = true := by simp [inB]; omega
  replace HR := Lib.hid (HR.out.trans (if_pos hx))
  clear hx
  obtain ⟨k, rfl⟩ := Int.eq_ofNat_of_zero_le (show 0 ≤ v by omega)
  have hr := HR.out
  rw [Int.toNat_natCast] at hr
  replace HR := Lib.hid hr
  clear hr
  have hk : k < s.m := by omega
  have hk1000 : k < 1000 := by omega
  clear hv0 hvm
  obtain ⟨bl, rfl, dm, -⟩ := ca_msg HW.out hk
  have d4 := HW.out.lay.cell1 4 rfl hi
  have hl : ∀ W' : World, Sim W W' → (Instr.lookup 47 (.map (some (bc i))) (.int .i64 (k : Nat)) false).run Try.prog W' = .ok (.bool (s.come i k)) W' := fun W' hW' => ca_look (ca_sim HW.out hW') hi hk1000
  by_cases hby : s.by_ k = i
  · have e1 : ((s.by_ k : Int) == (i : Int)) = true := by rw [beq_iff_eq]; omega
    replace HR := Lib.hid (HR.out.trans (if_pos (.inl (by omega))))
    clear hby hl d4
    go_wp2
    refine wp_text_all (by kernel_rfl) (by kernel_rfl) (by kernel_rfl) (by repeat' (first | (with_reducible apply tame_then) | (with_reducible apply tame_block) | (with_reducible apply tame_scope) | exact tame_gives | exact tame_body (fun _ _ h => ⟨_, h.1⟩))) ?_
    go_wp2
    refine headed ?_
    go_wp2
    refine wp_text_all (by kernel_rfl) (by kernel_rfl) (by kernel_rfl) (by repeat' (first | (with_reducible apply tame_then) | (with_reducible apply tame_block) | (with_reducible apply tame_scope) | exact tame_gives | exact tame_body (fun _ _ h => ⟨_, h.1⟩))) ?_
    go_wp2
    refine headed ?_
    go_wp2
    go_ret
    have e9 := HR.out
    subst e9
    exact ⟨rfl, F, cl, _, HW.out.drew.drew.drop5.drop5⟩
  have e1 : ((s.by_ k : Int) == (i : Int)) = false := by rw [beq_eq_false_iff_ne]; omega
  have hl1 := hl W.drew ⟨rfl, rfl, rfl, rfl⟩
  have hl2 := hl W.drew.drew ⟨rfl, rfl, rfl, rfl⟩
  clear hl
  cases hcm : s.come i k
  · rw [hcm] at hl1 hl2
    have HCM := Lib.hid hcm
    have HBY := Lib.hid hby
    have hx : ¬ (((s.by_ k : Nat) : Int) = (i : Nat) ∨ s.come i k = true) := fun h => by
      rcases h with h2 | h2
      · exact hby (by omega)
      · rw [hcm] at h2; cases h2
    replace HR := Lib.hid (HR.out.trans (if_neg hx))
    clear hby hcm hx
    obtain ⟨es, c, hput, hL⟩ := ca_mark HW.out.drew.drew.drew hi hk1000
    have HL := Lib.hid hL
    clear hL
    go_wp2
    refine wp_text_all (by kernel_rfl) (by kernel_rfl) (by kernel_rfl) (by repeat' (first | (with_reducible apply tame_then) | (with_reducible apply tame_block) | (with_reducible apply tame_scope) | exact tame_gives | exact tame_body (fun _ _ h => ⟨_, h.1⟩))) ?_
    go_wp2
    refine headed ?_
    go_wp2
    refine wp_text_all (by kernel_rfl) (by kernel_rfl) (by kernel_rfl) (by repeat' (first | (with_reducible apply tame_then) | (with_reducible apply tame_block) | (with_reducible apply tame_scope) | exact tame_gives | exact tame_body (fun _ _ h => ⟨_, h.1⟩))) ?_
    go_wp2
    refine headed ?_
    go_wp2
    refine wp_text 10 (by kernel_rfl) (by kernel_rfl) (by kernel_rfl) (by repeat' (first | (with_reducible apply tame_then) | (with_reducible apply tame_block) | (with_reducible apply tame_scope) | exact tame_gives | exact tame_body (fun _ _ h => ⟨_, h.1⟩))) ?_
    simp only [List.take_succ_cons, List.take_zero, List.drop_succ_cons, List.drop_zero]
    go_wp2
    refine headed ?_
    refine wpList_updE rfl (.tmp 100) (.tmp 102) (.const (.bool true)) _ rfl rfl rfl rfl hput ?_
    clear hput hl1 hl2 hN m0 m1 m2 m3 c0 c1 c2 c3 c4 dm d4 HW
    refine at_layQ (F := fun W' => wpList _ _ _ [] _ W') HL.out ?_
    intro W5 hW5
    have H5 := Lib.hid hW5
    clear hW5 HL
    have dN : W5.cell? ⟨qn, 0, none⟩ = some (.pointer (some ⟨g, 0, none⟩)) := H5.out.lay.cellB 6 rfl 0 (by omega)
    have m2 : W5.cell? ⟨qm, 2, none⟩ = some (.int .i64 i) := H5.out.lay.cellB 5 rfl 2 (by omega)
    have HB1 : Hid (CaB n j (markC i k s)) := Lib.hid ⟨HB.out.m, HB.out.by_, HB.out.told, HB.out.nd, HB.out.clock, HB.out.ahead⟩
    go_wp2_with fail
    refine (settle_any g cl gt gc cc gm cm n _ bc _ w0 i j F (markC i k s) _ hn1 hn (by omega) HB1.out hi H5.out).mono ?_
    rintro e w7 ⟨rfl, F7, h7⟩
    have H7 := Lib.hid h7
    clear h7
    go_wp2
    go_ret
    have e9 := HR.out
    subst e9
    exact ⟨rfl, F7, cl, _, H7.out.drop5.drop5⟩
  · rw [hcm] at hl1 hl2
    replace HR := Lib.hid (HR.out.trans (if_pos (.inr hcm)))
    clear hby hcm
    go_wp2
    refine wp_text_all (by kernel_rfl) (by kernel_rfl) (by kernel_rfl) (by repeat' (first | (with_reducible apply tame_then) | (with_reducible apply tame_block) | (with_reducible apply tame_scope) | exact tame_gives | exact tame_body (fun _ _ h => ⟨_, h.1⟩))) ?_
    go_wp2
    refine headed ?_
    go_wp2
    refine wp_text_all (by kernel_rfl) (by kernel_rfl) (by kernel_rfl) (by repeat' (first | (with_reducible apply tame_then) | (with_reducible apply tame_block) | (with_reducible apply tame_scope) | exact tame_gives | exact tame_body (fun _ _ h => ⟨_, h.1⟩))) ?_
    go_wp2
    refine headed ?_
    go_wp2
    go_ret
    have e9 := HR.out
    subst e9
    exact ⟨rfl, F, cl, _, HW.out.drew.drew.drop5.drop5⟩
theorem doC_any (F : FC → Value) (s : CaS) (w : World) (j : Nat) (k f t v : Int) (hn1 : 1 ≤ n) (hn : n ≤ 6) (hj : j ≤ 90) (hB : CaB n j s) (h : LayC g cl gt gc cc gm cm n AL bc R w0 F s w) :
    Calls Try.prog 13 #[.pointer (some ⟨g, 0, none⟩), .agg #[.int .i64 k, .int .i64 f, .int .i64 t, .int .i64 v]] w fun e w' => e = .returned (.int .i64 (caStep n k f t v s).1) ∧ PostC g gt gc cc gm cm n bc R w0 w' (caStep n k f t v s).2 := by
  by_cases h1 : k = 1
  · subst h1; exact doC_tell g cl gt gc cc gm cm n AL bc R w0 F s w j f t v hn1 hn hj hB h
  · by_cases h2 : k = 2
    · subst h2; exact doC_come g cl gt gc cc gm cm n AL bc R w0 F s w j f t v hn1 hn hj hB h
    · rw [show caStep n k f t v s = (6, s) by unfold caStep; rw [if_neg h1, if_neg h2]]
      exact doC_kind g cl gt gc cc gm cm n AL bc R w0 F s w k f t v ⟨h1, h2⟩ h
end
end Go.Proofs.Ytiljnddjecbmfaa
