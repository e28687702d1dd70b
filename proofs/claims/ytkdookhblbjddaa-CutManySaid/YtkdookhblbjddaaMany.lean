/- The walk of cut.Many. -/
import Derived.Test.YtkdookhblbjddaaManyMath
import Derived.Test.YtkdookhblbjddaaLongest
import Derived.Test.YtkdookhblbjddaaRange
set_option linter.unusedVariables false
set_option linter.unusedSimpArgs false
namespace Go.Proofs.Ytkdookhblbjddaa
open Go.RowKit Go.Maps

section
variable {P : Program} {w w' : World} {ops : Array Oper} {rest : List Oper} {o : Oper} {a : Act} {Q : Exit → Act → World → Prop}
theorem wpList_lenE (hg : o.guard = none) (m : Operand) (t : TypeId) (hop : o.op = Op.call { callee := Callee.builtin Builtin.len, args := #[m], argTypes := #[t] }) (ht : P.underlying t = some (.map (P.mapKeyOf t) (P.mapElemOf t))) {b : Nat} {es : Array MapEntry} {clock : Nat} (hm : a.eval m = .map (some b))
    (hb : w.heap[b]? = some (.map es clock)) (hK : wpList P ops Q rest (a.put o.dst (.int .i64 es.size)) w) : wpList P ops Q (o :: rest) a w := by
  refine wpList_plain hg fun K' hK' => ?_
  unfold Oper.wp
  simp [execOp, hop, resolve, invoke, builtin, hm, run_len_map w t o.type b es clock ht hb, Result.andThen]
  exact hK' _ _ hK
theorem wpList_insE (hgd : o.guard = none) (mo xo vo : Operand) (t : TypeId) (hop : o.op = Op.insert t mo xo vo) {mv xv vv : Value} (hm : a.eval mo = mv) (hx : a.eval xo = xv) (hv : a.eval vo = vv)
    (hrun : (Instr.mapUpdate t mv xv vv).run P w = .ok () w') (hK : wpList P ops Q rest (a.put o.dst undef) w') : wpList P ops Q (o :: rest) a w := by
  refine wpList_plain hgd fun K' hK' => ?_
  unfold Oper.wp
  simp [execOp, hop, hm, hx, hv, hrun, Result.andThen]
  exact hK' _ _ hK
theorem wpList_updE (hgd : o.guard = none) (mo xo vo : Operand) (t : TypeId) (hop : o.op = Op.mapUpdate t mo xo vo) {mv xv vv : Value} (hm : a.eval mo = mv) (hx : a.eval xo = xv) (hv : a.eval vo = vv)
    (hrun : (Instr.mapUpdate t mv xv vv).run P w = .ok () w') (hK : wpList P ops Q rest (a.put o.dst undef) w') : wpList P ops Q (o :: rest) a w := by
  refine wpList_plain hgd fun K' hK' => ?_
  unfold Oper.wp
  simp [execOp, hop, hm, hx, hv, hrun, Result.andThen]
  exact hK' _ _ hK
end
def keyW (S : Nat) : Value := .int .u32 (S : Nat)
theorem keyW_inj (x y : Nat) (h : keyW x = keyW y) : x = y := by
  unfold keyW at h
  injection h with _ h
  exact Int.ofNat_inj.1 h
theorem keyedW : Keyed Try.prog 54 := int_keyed Try.underlying54
theorem wf_word {x : Nat} (hx : x < 4294967296) : (Lit.int .u32 (x : Nat)).wf = true := by
  simp [Lit.wf, IntKind.min, IntKind.max, IntKind.signed, IntKind.bits]; omega
abbrev KW (l : List Nat) : Array MapEntry → Nat → Prop := KeyL Try.prog 54 keyW l
section
variable {w0 w : World} {L : List LRow} {Q : List MRow} {b b2 : Nat}
theorem LayM.fix {φ : Array MapEntry → Nat → Prop} (h : LayM w0 w L [⟨b, φ⟩]) : ∃ es c, w.heap[b]? = some (.map es c) ∧ φ es c ∧ LayM w0 w L [⟨b, fun e' c' => e' = es ∧ c' = c⟩] := by
  obtain ⟨h1, es, c, h2, h3⟩ := h.map 0 _ rfl
  refine ⟨es, c, h2, h3, h.lay, fun i q hi => ?_, fun i j q r hij hi hj => ?_⟩
  · rcases i with _ | i
    · obtain rfl : (⟨b, fun e' c' => e' = es ∧ c' = c⟩ : MRow) = q := by simpa using hi
      exact ⟨h1, es, c, h2, rfl, rfl⟩
    · simp at hi
  · rcases i with _ | i
    · rcases j with _ | j
      · exact absurd rfl hij
      · simp at hj
    · simp at hi
theorem LayM.first {q : MRow} (h : LayM w0 w L (q :: Q)) : LayM w0 w L [q] := by
  refine ⟨h.lay, fun i x hi => ?_, fun i j x y hij hi hj => ?_⟩
  · rcases i with _ | i
    · obtain rfl : q = x := by simpa using hi
      exact h.map 0 _ rfl
    · simp at hi
  · rcases i with _ | i
    · rcases j with _ | j
      · exact absurd rfl hij
      · simp at hj
    · simp at hi
theorem word_put {l : List Nat} (h : LayM w0 w L (⟨b, KW l⟩ :: Q)) (S : Nat) (hS : S < 4294967296) :
    ∃ es' c', (Instr.mapUpdate 64 (.map (some b)) (.int .u32 (S : Nat)) (.bool true)).run Try.prog w = .ok () (ChangeMaps.setBlock w b (.map es' c')) ∧ LayM w0 (ChangeMaps.setBlock w b (.map es' c')) L (⟨b, KW (if S ∈ l then l else l ++ [S])⟩ :: Q) := by
  obtain ⟨h1, es, c, h2, h3⟩ := h.map 0 _ rfl
  obtain ⟨es', c', hrun, h4⟩ := KeyL.put h3 h2 keyedW Try.underlying64 keyW_inj S (keyOf_int_mk Try.underlying54 (wf_word hS)) (.bool true)
  exact ⟨es', c', hrun, h.setM 0 rfl es' c' _ h4⟩
end
theorem mem_put {l : List Nat} {S x : Nat} : x ∈ (if S ∈ l then l else l ++ [S]) ↔ x ∈ l ∨ x = S := by
  split
  · rename_i h
    exact ⟨.inl, fun h' => h'.elim id fun e => by rw [e]; exact h⟩
  · simp
/-- May x go to T? -/
def OkX (E : Ev) (T x : Nat) : Prop := T.testBit x = false ∧ ∀ a, Hb E a x → T.testBit a = true
def Grow (E : Ev) (len : Nat) (D : Nat → Prop) (T i S : Nat) : Prop := (∃ U x, D U ∧ x < len ∧ OkX E U x ∧ S = U ||| 2 ^ x) ∨ ∃ x, x < i ∧ OkX E T x ∧ S = T ||| 2 ^ x
theorem grow_zero (E : Ev) (len : Nat) (D : Nat → Prop) (T S : Nat) : Grow E len D T 0 S ↔ ∃ U x, D U ∧ x < len ∧ OkX E U x ∧ S = U ||| 2 ^ x :=
  ⟨fun h => h.elim id fun ⟨x, hx, _⟩ => absurd hx (by omega), .inl⟩
theorem grow_no {E : Ev} {len : Nat} {D : Nat → Prop} {T i : Nat} (h : ¬ OkX E T i) (S : Nat) : Grow E len D T (i + 1) S ↔ Grow E len D T i S := by
  constructor
  · rintro (h1 | ⟨x, hx, h1, h2⟩)
    · exact .inl h1
    · rcases Nat.lt_succ_iff_lt_or_eq.1 hx with h3 | rfl
      · exact .inr ⟨x, h3, h1, h2⟩
      · exact absurd h1 h
  · rintro (h1 | ⟨x, hx, h1, h2⟩)
    · exact .inl h1
    · exact .inr ⟨x, by omega, h1, h2⟩
theorem grow_yes {E : Ev} {len : Nat} {D : Nat → Prop} {T i : Nat} (h : OkX E T i) (S : Nat) : Grow E len D T (i + 1) S ↔ Grow E len D T i S ∨ S = T ||| 2 ^ i := by
  constructor
  · rintro (h1 | ⟨x, hx, h1, h2⟩)
    · exact .inl (.inl h1)
    · rcases Nat.lt_succ_iff_lt_or_eq.1 hx with h3 | rfl
      · exact .inl (.inr ⟨x, h3, h1, h2⟩)
      · exact .inr h2
  · rintro ((h1 | ⟨x, hx, h1, h2⟩) | rfl)
    · exact .inl h1
    · exact .inr ⟨x, by omega, h1, h2⟩
    · exact .inr ⟨i, by omega, h, rfl⟩
theorem grow_all {E : Ev} {len : Nat} {D : Nat → Prop} {T : Nat} (S : Nat) : Grow E len D T len S ↔ ∃ U x, (D U ∨ U = T) ∧ x < len ∧ OkX E U x ∧ S = U ||| 2 ^ x := by
  constructor
  · rintro (⟨U, x, h1, h2⟩ | ⟨x, h1, h2⟩)
    · exact ⟨U, x, .inl h1, h2⟩
    · exact ⟨T, x, .inr rfl, h1, h2⟩
  · rintro ⟨U, x, h1 | rfl, h2⟩
    · exact .inl ⟨U, x, h1, h2⟩
    · exact .inr ⟨x, h2.1, h2.2⟩
theorem all_small {E : Ev} {len s : Nat} {l : List Nat} (h : AllL E len s l) (h30 : len ≤ 30) : l.length ≤ 1073741824 := by
  have := nodup_le (m := List.range 1073741824) h.1 fun S hS => by
    rw [List.mem_range]
    exact Nat.lt_of_lt_of_le (dc_lt ((h.2 S).1 hS).1) (Nat.le_trans (Nat.pow_le_pow_right (by omega) h30) (by decide))
  rwa [List.length_range] at this
theorem all_full {E : Ev} {len s : Nat} {l : List Nat} (h : AllL E len s l) (hs : len < s) : AllL E len (len + 1) l :=
  ⟨h.1, fun S => by
    rw [h.2]
    have := pcS_le S len
    exact ⟨fun ⟨h1, _⟩ => ⟨h1, by omega⟩, fun ⟨h1, _⟩ => ⟨h1, by omega⟩⟩⟩
theorem lvl_small {E : Ev} {len s : Nat} {l : List Nat} (h : Lvl E len s l) (h30 : len ≤ 30) : l.length ≤ 1073741824 ∧ ∀ T, T ∈ l → T < 1073741824 := by
  have hb : ∀ T, T ∈ l → T < 1073741824 := fun S hS => Nat.lt_of_lt_of_le (dc_lt ((h.2 S).1 hS).1) (Nat.le_trans (Nat.pow_le_pow_right (by omega) h30) (by decide))
  have := nodup_le (m := List.range 1073741824) h.1 fun S hS => by rw [List.mem_range]; exact hb S hS
  rw [List.length_range] at this
  exact ⟨this, hb⟩
theorem bit_zero {P i : Nat} (hP : P < 4294967296) : (bits .and .u32 ((P : Int) / 2 ^ i) 1 == 0) = !P.testBit i := by
  have e : ((P : Int) / 2 ^ i) = ((P / 2 ^ i : Nat) : Int) := by simp
  have h1 : P / 2 ^ i < 4294967296 := Nat.lt_of_le_of_lt (Nat.div_le_self _ _) hP
  have h2 := u32_and_nat (P / 2 ^ i) 1 h1 (by omega)
  rw [e]
  have e1 : ((1 : Nat) : Int) = 1 := rfl
  rw [e1] at h2
  rw [h2, Nat.testBit_eq_decide_div_mod_eq, Nat.and_one_is_mod]
  rw [Bool.eq_iff_iff, beq_iff_eq, Bool.not_eq_true', decide_eq_false_iff_not]
  omega
theorem Rng.put {w : World} {b r b2 : Nat} {es es2 : Array MapEntry} {c c2 : Nat} {seen : Array Nat} (h : Rng w b r es c seen) (hm : w.heap[b2]? = some (.map es2 c2)) (hne : b2 ≠ b) (o : Obj) : Rng (ChangeMaps.setBlock w b2 o) b r es c seen := by
  have hr : b2 ≠ r := by
    rintro rfl
    obtain ⟨c0, h1, _⟩ := h.it
    rw [h1] at hm; cases hm
  refine h.kept ?_ ?_
  · show (w.heap.setIfInBounds _ _)[b]? = _
    rw [Array.getElem?_setIfInBounds_ne hne]
  · show (w.heap.setIfInBounds _ _)[r]? = _
    rw [Array.getElem?_setIfInBounds_ne hr]
set_option maxRecDepth 100000 in
set_option maxHeartbeats 4000000 in
theorem many_good (n : Nat) (A : Option Addr) (len cap : Nat) (E : Ev) (w : World) (hr : Rd w w.heap.size A (len * 3) (evF E)) (hg : runCode n E len = 0) :
    Calls Try.prog 29 #[.int .i64 (n : Nat), .slice A len cap] w (Gives fun v w' => ∃ l, v = .tuple #[.int .i64 (l.length : Nat), .int .i64 0] ∧ AllL E len (len + 1) l ∧ Below w.heap.size w w') := by
  have HG := Lib.hid hg
  have h30 := (runCode_ok hg).1.2.2
  have HC := Lib.hid (check_any n A len cap w.heap.size E w (by unfold maxLen; omega) (Nat.le_refl _) hr)
  have HP := Lib.hid (fun (W : World) (hb : Below w.heap.size w W) => past_any n A len cap w.heap.size E W hg hb.size (hr.below hb))
  have HPW : Hid (∀ j, j < len → pastF E len j = .int .u32 (pastW E j : Nat) ∧ pastW E j < 4294967296) := Lib.hid fun j hj => ⟨by unfold pastF; rw [if_pos hj], pastW_lt hg hj⟩
  clear hg hr
  have hmm := @run_makeMap Try.prog
  go_enter Try.func29, Try.ntmps29
  go_wp2_with fail
  refine (int_is_b HC.out HG.out).mono ?_
  rintro e w1 ⟨rfl, hb⟩
  have HB1 := Lib.hid hb; clear hb HC
  go_wp2_with fail
  refine (HP.out w1 HB1.out).mono ?_
  rintro e w2 ⟨rfl, ho, hb⟩
  have HL2 : Hid (Lay w w2 [lst (some ⟨w1.heap.size + 2, 0, none⟩) 54 len len (pastF E len)]) := Lib.hid (((Lay.nil w).keep (HB1.out.trans (hb.mono HB1.out.size))).cons (ho.base_le HB1.out.size) (fun i s hi => by simp at hi))
  clear ho hb HP HB1
  generalize w1.heap.size + 2 = gp at HL2 ⊢
  have HM0 : Hid (LayM w (w2.alloc (.map #[] 0)) [lst (some ⟨gp, 0, none⟩) 54 len len (pastF E len)] [⟨w2.heap.size, KW []⟩]) := Lib.hid (HL2.out.toM.newM _ (KeyL.empty _ _ _) _ rfl)
  obtain ⟨es0, c0, hins, hm1⟩ := word_put HM0.out 0 (by omega)
  have HM1 := Lib.hid hm1
  clear hm1 HM0
  go_wp2_with (first
    | (refine wpList_insE rfl (.tmp 23) (.const (.int .u32 0)) (.const (.bool true)) _ rfl rfl rfl rfl hins ?_)
    | fail)
  clear hins
  have HM2 : Hid (LayM w (ChangeMaps.setBlock (w2.alloc (.map #[] 0)) w2.heap.size (.map es0 c0)) [lst (some ⟨gp, 0, none⟩) 54 len len (pastF E len)] [⟨w2.heap.size, KW [0]⟩]) := HM1
  clear HM1
  generalize ChangeMaps.setBlock (w2.alloc (.map #[] 0)) w2.heap.size (.map es0 c0) = w3 at HM2 ⊢
  generalize w2.heap.size = b0 at HM2 ⊢
  go_wp2
  go_loopw [8, 9] (fun m y wr => ∃ (s : Nat) (lA l : List Nat) (b : Nat), m = .map (some b) ∧ y = .int .i64 (lA.length : Nat) ∧ Hid (AllL E len s lA) ∧ Hid (Lvl E len s l) ∧ Hid (LayM w wr [lst (some ⟨gp, 0, none⟩) 54 len len (pastF E len)] [⟨b, KW l⟩])) (fun _ y _ => 1073741825 - (intOf y).toNat)
  case atStart => exact ⟨0, [], [0], b0, rfl, rfl, Lib.hid (all_zero E len), Lib.hid (lvl_zero E len), HM2⟩
  case round =>
    clear HM2 HL2
    obtain ⟨s, lA, l, b, rfl, rfl, HA, HLV, HL⟩ := hrel
    obtain ⟨es, c, hbm, hkl, hf⟩ := HL.out.fix
    have HF := Lib.hid hf
    have HKL := Lib.hid hkl
    have hlen := hkl.len
    obtain ⟨hls, hlT⟩ := lvl_small HLV.out h30
    have HLT := Lib.hid hlT
    have hlA := all_small HA.out h30
    have hmt : Try.prog.underlying 64 = some (.map (Try.prog.mapKeyOf 64) (Try.prog.mapElemOf 64)) := by kernel_rfl
    clear hf hkl hlT
    by_cases hl : l = []
    · have hz : es.size = 0 := by rw [hlen, hl]; rfl
      have HS : Hid (len < s) := Lib.hid (Nat.lt_of_not_le fun h => lvl_some HLV.out h hl)
      clear hl hlen
      go_wp2_with (first
        | (at_len; refine wpList_lenE rfl (.tmp 25) _ rfl hmt rfl hbm ?_; rw [hz, show ((0 : Nat) : Int) = 0 from rfl])
        | fail)
      go_ret2
      exact ⟨_, rfl, lA, rfl, all_full HA.out HS.out, HL.out.lay.bel⟩
    · have hz : es.size ≠ 0 := by
        rw [hlen]
        intro h
        exact hl (List.length_eq_zero_iff.1 h)
      have HSUM : Hid ((lA ++ l).length = lA.length + es.size) := Lib.hid (by rw [List.length_append, hlen])
      rw [← hlen] at hls
      clear hl hlen
      have hbm2 : (wr.alloc (.map #[] 0)).heap[b]? = some (.map es c) := (Below.heap_alloc _ _ _ (Array.getElem?_eq_some_iff.1 hbm).1).trans hbm
      have HM0 := Lib.hid ((HF.out.newM _ (KeyL.empty Try.prog 54 keyW) _ rfl))
      have hzw := HL.out.size
      have hz : 0 < es.size := Nat.pos_of_ne_zero hz
      go_wp2_with (first
        | (at_len; refine wpList_lenE rfl (.tmp 25) _ rfl hmt rfl hbm ?_)
        | (at_len; refine wpList_lenE rfl (.tmp 29) _ rfl hmt rfl hbm ?_)
        | (at_range; refine wpList_rangeE rfl (.tmp 33) _ rfl Try.underlying64 rfl hbm2 ?_; intro w5 hw5 hrg5; have HR5 := Lib.hid hrg5; have HM5 : Hid (LayM w w5 _ _) := Lib.hid (by rw [hw5]; exact HM0.out.alloc _); clear hw5 hrg5)
        | fail)
      have hr5 : w.heap.size ≤ (wr.alloc (.map #[] 0)).heap.size := by simp; omega
      generalize (wr.alloc (.map #[] 0)).heap.size = r at HR5 hr5 ⊢
      generalize wr.heap.size = b2 at HM5 ⊢
      clear HM0 hbm hbm2 HF HL
      go_frame
      go_loopw [11] (fun _ wr => ∃ (seen : Array Nat) (K : List Nat), Hid (Rng wr b r es c seen) ∧ Hid (LayM w wr [lst (some ⟨gp, 0, none⟩) 54 len len (pastF E len)] [⟨b2, KW K⟩, ⟨b, fun e' c' => e' = es ∧ c' = c⟩]) ∧ Hid (∀ S, S ∈ K ↔ ∃ U x, SeenK keyW es seen U ∧ x < len ∧ OkX E U x ∧ S = U ||| 2 ^ x)) (fun _ wr => wr.rangeLeft b r)
      case atStart => exact ⟨#[], [], HR5, HM5, Lib.hid fun S => ⟨fun h => by simp at h, fun ⟨U, x, h, _⟩ => absurd h (seenK_none _ _ _)⟩⟩
      case round =>
        clear HR5 HM5
        obtain ⟨seen, K, HR, HM, HS⟩ := hrel
        have hst := HKL.out.1
        go_wp2_with (first
          | (at_next; refine wpList_nextE rfl (.tmp 34) rfl rfl HR.out hst ?_ ?_)
          | fail)
        · intro h0'
          have h0 : (leftOf es seen).size = 0 := by simpa using h0'
          have HN : Hid (Lvl E len (s + 1) K) := Lib.hid (by
            obtain ⟨_, es2, c2, _, hk2⟩ := HM.out.map 0 _ rfl
            refine lvl_next HLV.out hk2.nodup fun S => ?_
            rw [HS.out S]
            constructor
            · rintro ⟨U, x, ⟨e, he, hek, _⟩, h1, h2, h3⟩
              obtain ⟨a, ha, hak⟩ := HKL.out.mem he
              obtain rfl : U = a := keyW_inj _ _ (hek.symm.trans hak)
              exact ⟨U, x, ha, h1, h2.1, h2.2, h3⟩
            · rintro ⟨U, x, hU, h1, h2, h3, h4⟩
              exact ⟨U, x, seenK_all h0 (HKL.out.has hU), h1, ⟨h2, h3⟩, h4⟩)
          clear h0 h0'
          go_wp2
          go_roundw
          case rel => exact ⟨s + 1, lA ++ l, K, b2, rfl, by rw [HSUM.out]; go_num, Lib.hid (all_next HA.out HLV.out), HN, Lib.hid HM.out.first⟩
          case measure => simp [intOf]; omega
        · intro e w6 hem' hns hrg hlt hgr hsz hen
          have hem : e ∈ es.toList := by simpa using hem'
          obtain ⟨T, hT, hk⟩ := HKL.out.mem hem
          have hT30 := HLT.out T hT
          have HR6 := Lib.hid hrg
          have HM6 := Lib.hid (HM.out.turned hgr HR.out hr5)
          have HLQ : Hid (wr.rangeLeft b r = (leftOf es seen).size) := Lib.hid HR.out.left_eq
          have HPU := Lib.hid (fun (x : Nat) => seenK_push (seen := seen) keyW_inj hst hem hk x)
          have HLT2 := Lib.hid hlt
          have HS0 : Hid (∀ S, S ∈ K ↔ Grow E len (SeenK keyW es seen) T 0 S) := Lib.hid fun S => (HS.out S).trans (grow_zero _ _ _ _ _).symm
          rw [hk] at hen ⊢
          unfold keyW at hen
          unfold keyW
          generalize seen.push e.born = seen2 at *
          clear hrg hgr hns hlt hk hem hem' HM HR HS
          go_wp2
          go_loopw [41] (fun y wr3 => ∃ (i : Nat) (K : List Nat), y = .int .i64 (i : Nat) ∧ i ≤ len ∧ Hid (Rng wr3 b r es c seen2) ∧ Hid (LayM w wr3 [lst (some ⟨gp, 0, none⟩) 54 len len (pastF E len)] [⟨b2, KW K⟩, ⟨b, fun e' c' => e' = es ∧ c' = c⟩]) ∧ Hid (∀ S, S ∈ K ↔ Grow E len (SeenK keyW es seen) T i S)) (fun y _ => len - (intOf y).toNat)
          case atStart => exact ⟨0, K, rfl, by omega, HR6, HM6, HS0⟩
          case round =>
            clear HR6 HM6 HS0
            obtain ⟨i, K, rfl, hi, HR3, HL3, HS3⟩ := hrel
            by_cases hlt : i < len
            · have c0 := HL3.out.lay.cell1 0 rfl hlt
              rw [(HPW.out i hlt).1] at c0
              have hgp := (HL3.out.lay.at_ 0 rfl).2
              have hbt := bit_zero (P := T) (i := i) (by omega)
              have hT32 : T < 4294967296 := by omega
              have HAN := Lib.hid (andNot_zero (HPW.out i hlt).2 hT32)
              obtain ⟨z, hz2⟩ : ∃ z, (bits .andNot .u32 (pastW E i : Int) (T : Int) == 0) = z := ⟨_, rfl⟩
              rw [hz2] at HAN
              have hor := or_pow (a := T) (m := i) hT32 (by omega)
              cases hb : T.testBit i
              · rw [hb] at hbt
                cases z
                · have HNO : Hid (¬ OkX E T i) := Lib.hid fun h => by
                    have := HAN.out.2 h.2
                    cases this
                  clear hb
                  go_wp2
                  go_roundw
                  case rel => exact ⟨i + 1, K, by go_num, by omega, HR3, HL3, Lib.hid fun S => (HS3.out S).trans (grow_no HNO.out S).symm⟩
                  case measure => simp [intOf]; omega
                · have HYES : Hid (OkX E T i) := Lib.hid ⟨hb, HAN.out.1 rfl⟩
                  have hST : T ||| 2 ^ i < 4294967296 := Nat.lt_of_lt_of_le (Nat.or_lt_two_pow (n := 32) (by omega) (Nat.pow_lt_pow_right (by omega) (by omega))) (by decide)
                  obtain ⟨es', c', hput, hl7⟩ := word_put HL3.out (T ||| 2 ^ i) hST
                  have HL7 := Lib.hid hl7
                  have HR7 : Hid (Rng (ChangeMaps.setBlock wr b2 (.map es' c')) b r es c seen2) := Lib.hid (by
                    obtain ⟨_, es3, c3, hb3, _⟩ := HL3.out.map 0 _ rfl
                    exact HR3.out.put hb3 (HL3.out.ap 0 1 _ _ (by decide) rfl rfl) _)
                  clear hl7 hb
                  go_wp2_with (first
                    | (at_mapUpdate; refine wpList_updE rfl (.tmp 57) (.tmp 61) (.const (.bool true)) _ rfl rfl rfl rfl hput ?_)
                    | fail)
                  go_roundw
                  case rel => exact ⟨i + 1, _, by go_num, by omega, HR7, HL7, Lib.hid fun S => (mem_put.trans (or_congr (HS3.out S) Iff.rfl)).trans (grow_yes HYES.out S).symm⟩
                  case measure => simp [intOf]; omega
              · rw [hb] at hbt
                have HNO : Hid (¬ OkX E T i) := Lib.hid fun h => by
                  have := h.1
                  rw [hb] at this
                  cases this
                clear hb
                go_wp2
                go_roundw
                case rel => exact ⟨i + 1, K, by go_num, by omega, HR3, HL3, Lib.hid fun S => (HS3.out S).trans (grow_no HNO.out S).symm⟩
                case measure => simp [intOf]; omega
            · obtain rfl : i = len := by omega
              go_wp2
              go_roundw
              case rel => exact ⟨seen2, K, HR3, HL3, Lib.hid fun S => ((HS3.out S).trans (grow_all S)).trans (exists_congr fun U => exists_congr fun x => and_congr (HPU.out U).symm Iff.rfl)⟩
              case measure => rw [HR3.out.left_eq, HLQ.out]; exact HLT2.out
end Go.Proofs.Ytkdookhblbjddaa
