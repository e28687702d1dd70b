/- The walks of slices.Equal at []int, cut.in, cut.whole and cut.Is. -/
import Derived.Test.YthonnpimfidkdaaCutMath
import Derived.Test.YthonnpimfidkdaaVecS
import Derived.Test.YthonnpimfidkdaaPast
import Derived.Test.YthonnpimfidkdaaAhead
import Derived.Test.YthonnpimfidkdaaLay
import Derived.Test.YthonnpimfidkdaaText
set_option linter.unusedVariables false
set_option linter.unusedSimpArgs false
namespace Go.Proofs.Ythonnpimfidkdaa
open Go.RowKit

set_option maxHeartbeats 1000000 in
theorem equal_any (n cap cap2 B : Nat) (A A2 : Option Addr) (f g : Nat → Int) (w : World) (hn : n ≤ maxLen) (hB : B ≤ w.heap.size) (hr : Rd w B A n (numV f)) (hr2 : Rd w B A2 n (numV g)) :
    Calls Try.prog 27 #[.slice A n cap, .slice A2 n cap2] w (Gives fun v w' => v = .bool (!anyTo (fun j => f j != g j) n) ∧ Below w.heap.size w w') := by
  unfold maxLen at hn
  have HR := Lib.hid (hr.more hB); clear hr
  have HR2 := Lib.hid (hr2.more hB); clear hr2
  go_enter Try.func27, Try.ntmps27
  go_wp2
  go_loopw [13] (fun i wr => ∃ k : Nat, k ≤ n ∧ i = .int .i64 k ∧ Hid (Below w.heap.size w wr) ∧ Hid (∀ j, j < k → (f j != g j) = false)) (fun i _ => n - (intOf i).toNat)
  case atStart => exact ⟨0, by omega, rfl, Below.refl _ _, fun j hj => absurd hj (by omega)⟩
  case round =>
    obtain ⟨k, hk, rfl, HB, HA⟩ := hrel
    by_cases hlt : k < n
    · obtain ⟨ad, rfl, hbl, hc⟩ := (HR.out.below HB.out) (by omega)
      obtain ⟨ad2, rfl, hbl2, hc2⟩ := (HR2.out.below HB.out) (by omega)
      have c0 := hc k hlt
      have c1 := hc2 k hlt
      clear hc hc2
      obtain ⟨d, hd⟩ : ∃ d, (f k == g k) = d := ⟨_, rfl⟩
      have HD : Hid ((f k != g k) = !d) := Lib.hid (by rw [← hd]; rfl)
      cases d
      all_goals
        go_wp2
        refine wp_text_all (by kernel_rfl) (by kernel_rfl) (by kernel_rfl) (by repeat' (first | (with_reducible apply tame_then) | (with_reducible apply tame_block) | (with_reducible apply tame_scope) | exact tame_gives | exact tame_body (fun _ _ h => ⟨_, h.1⟩))) ?_
        go_wp2
        refine headed ?_
        go_wp2
      · have HN : Hid (anyTo (fun j => f j != g j) n = true) := Lib.hid (anyTo_iff.2 ⟨k, hlt, HD.out⟩)
        go_ret
        exact ⟨_, rfl, by rw [HN.out]; rfl, HB.out.drew⟩
      · go_roundw
        case rel => exact ⟨k + 1, by omega, by go_num, Lib.hid HB.out.drew, fun j hj => (Nat.lt_succ_iff_lt_or_eq.1 hj).elim (HA.out j) (fun e => by subst e; exact HD.out)⟩
        case measure => simp [intOf]; omega
    · obtain rfl : k = n := by omega
      have HN : Hid (anyTo (fun j => f j != g j) k = false) := Lib.hid (anyTo_no.2 HA.out)
      go_wp2
      go_ret
      exact ⟨_, rfl, by rw [HN.out]; rfl, HB.out⟩

theorem ev_proc {n : Nat} {E : Ev} {len j : Nat} (h : runCode n E len = 0) (hj : j < len) : ∃ q : Nat, E.p j = q ∧ q < n := by
  obtain ⟨_, hok⟩ := runCode_ok h
  obtain ⟨⟨h1, h2⟩, _⟩ := evCode_ok (hok j hj)
  exact ⟨(E.p j).toNat, by omega, by omega⟩
set_option maxRecDepth 100000 in
set_option maxHeartbeats 2000000 in
theorem in_any (n : Nat) (A : Option Addr) (len cap B : Nat) (E : Ev) (A2 : Option Addr) (m cap2 : Nat) (c : Nat → Int) (w : World) (hgood : runCode n E len = 0) (hm : m ≤ maxLen) (hB : B ≤ w.heap.size) (hr : Rd w B A (len * 3) (evF E)) (hr2 : Rd w B A2 m (numV c)) :
    Calls Try.prog 18 #[.int .i64 (n : Nat), .slice A len cap, .slice A2 m cap2] w
      (Gives fun v w' => ∃ S x : Int, v = .tuple #[.int .u32 S, .int .i64 x] ∧ (x = 0 ↔ CutOk n E len c m) ∧ (x = 0 → S = (cutS E c len : Nat)) ∧ Below w.heap.size w w') := by
  unfold maxLen at hm
  have HR := Lib.hid (hr.more hB); clear hr
  have HR2 := Lib.hid (hr2.more hB); clear hr2
  have HG := Lib.hid hgood
  obtain ⟨⟨h1, h6, h30⟩, _⟩ := runCode_ok hgood
  clear hgood
  by_cases hmn : m = n
  · subst hmn
    obtain ⟨iI, hiI, hzI0, hzI1, hzI2⟩ := info_parts infoIV
    obtain ⟨ac, rfl, hacb, hacc⟩ := HR2.out (by omega)
    have HC : Hid (∀ W, Below w.heap.size w W → ∀ q, q < m → W.cell? (ac.add q) = some (.int .i64 (c q)) ∧ (ac.add q).block < W.heap.size) := Lib.hid fun W hb q hq => ⟨(hb.cell (by rw [addr_block]; exact hacb)).trans (hacc q hq), by rw [addr_block]; exact Nat.lt_of_lt_of_le hacb hb.size⟩
    clear hacb hacc
    go_enter Try.func18, Try.ntmps18
    go_wp2_with (first
      | (at_make; refine wpList_mk1 rfl (.tmp 16) (.tmp 16) _ rfl 3 iI _ 8 Try.underlying23 hiI hzI0 hzI1 hzI2 rfl .i64 .i64 m rfl rfl (by omega) (by unfold maxLen; omega) w.heap.size _ rfl (Nat.le_refl _) ?_
         intro w2 ho2 he2
         have HL2 : Hid (Lay w w2 [arr w.heap.size 3 m (fun q => .int .i64 (hvE E c 0 q : Nat))]) := by rw [he2]; exact (Lay.nil w).make (.int .i64 0) rfl m (by unfold maxLen; omega) _ _ (fun q _ => by rw [hvE_zero]; rfl) _ rfl
         clear ho2 he2)
      | fail)
    generalize w.heap.size = g at HL2 ⊢
    go_loopw [8, 20] (fun s i wr => ∃ j : Nat, i = .int .i64 j ∧ j ≤ len ∧ s = .int .u32 (cutS E c j : Nat) ∧ Hid (Lay w wr [arr g 3 m (fun q => .int .i64 (hvE E c j q : Nat))])) (fun _ i _ => len - (intOf i).toNat)
    case atStart => exact ⟨0, rfl, by omega, rfl, HL2⟩
    case round =>
      clear HL2
      obtain ⟨j, rfl, hj, rfl, HL⟩ := hrel
      have hzz := HL.out.size
      by_cases hlt : j < len
      · obtain ⟨ad, rfl, hbl, e0, e1, e2⟩ := (HR.out.below HL.out.bel).rec3 hlt
        have hbl2 : (ad.add (j * 3)).block < wr.heap.size := by rw [addr_block]; omega
        obtain ⟨q, hq, hqn⟩ := ev_proc HG.out hlt
        rw [hq] at e0
        have HL1 : Hid (∀ o, Lay w (wr.alloc o) [arr g 3 m (fun q => .int .i64 (hvE E c j q : Nat))]) := Lib.hid fun o => HL.out.alloc o
        have hck := HL.out.cell1 0 rfl hqn
        have hfz := HL.out.frz 0 rfl (by omega) q
        have hga := (HL.out.at_ 0 rfl).2
        obtain ⟨hcc, hcb⟩ := HC.out wr HL.out.bel q hqn
        have HIN := Lib.hid (inC_iff (c := c) hq)
        have HST := Lib.hid (hvE_step (c := c) hq)
        have HCS : Hid (cutS E c (j + 1) = if inC E c j then cutS E c j ||| 2 ^ j else cutS E c j) := Lib.hid rfl
        have HOR := Lib.hid (or_pow (a := cutS E c j) (m := j) (Nat.lt_of_lt_of_le (cutS_lt E c j) (Nat.pow_le_pow_right (n := 2) (by omega) (by omega : j ≤ 32))) (by omega))
        have hvl := hvE_le E c j q
        have HV : Hid (∀ t, hvE E c j t = hvE E c j t) := Lib.hid fun _ => rfl
        clear hq
        by_cases hin : (hvE E c j q : Int) < c q
        · have HI := Lib.hid (HIN.out.2 hin)
          go_wp2
          refine wp_text_all (by kernel_rfl) (by kernel_rfl) (by kernel_rfl) (by repeat' (first | (with_reducible apply tame_then) | (with_reducible apply tame_block) | (with_reducible apply tame_scope) | exact tame_gives | exact tame_body (fun _ _ h => ⟨_, h.1⟩))) ?_
          go_wp2
          refine headed ?_
          go_wp2
          go_roundw
          case rel =>
            refine ⟨j + 1, by go_num, by omega, by rw [HCS.out, if_pos HI.out, HOR.out], Lib.hid ?_⟩
            refine (((HL.out.upd (mk := fun x : Nat => Value.int .i64 (x : Nat)) 0 (hvE E c j q + 1) rfl hqn).alloc _).drew).congr 0 _ rfl ?_
            intro t _
            show Value.int .i64 ((upd (hvE E c j) q (hvE E c j q + 1) t : Nat) : Int) = Value.int .i64 ((hvE E c (j + 1) t : Nat) : Int)
            rw [upd_apply, HST.out t]
            by_cases ht : t = q
            · subst ht; rw [if_pos rfl, if_pos ⟨rfl, HI.out⟩]
            · rw [if_neg ht, if_neg (fun h => ht h.1)]
          case measure => simp [intOf]; omega
        · have HI : Hid (inC E c j = false) := Lib.hid (by
            cases h : inC E c j
            · rfl
            · exact absurd (HIN.out.1 h) hin)
          go_wp2
          refine wp_text_all (by kernel_rfl) (by kernel_rfl) (by kernel_rfl) (by repeat' (first | (with_reducible apply tame_then) | (with_reducible apply tame_block) | (with_reducible apply tame_scope) | exact tame_gives | exact tame_body (fun _ _ h => ⟨_, h.1⟩))) ?_
          go_wp2
          refine headed ?_
          go_wp2
          go_roundw
          case rel =>
            refine ⟨j + 1, by go_num, by omega, by rw [HCS.out, if_neg (by rw [HI.out]; simp)], Lib.hid ?_⟩
            refine ((HL.out.alloc _).drew).congr 0 _ rfl ?_
            intro t _
            show Value.int .i64 ((hvE E c j t : Nat) : Int) = Value.int .i64 ((hvE E c (j + 1) t : Nat) : Int)
            rw [HST.out t, if_neg (fun h => by rw [HI.out] at h; cases h.2)]
          case measure => simp [intOf]; omega
      · obtain rfl : j = len := by omega
        have HRC : Hid (Rd wr w.heap.size (some ac) m (numV c)) := Lib.hid (HR2.out.below HL.out.bel)
        go_wp2_with fail
        refine (min_any m cap2 w.heap.size _ c wr ⟨by omega, by omega⟩ HRC.out).mono ?_
        rintro e w3 ⟨v, rfl, x, rfl, hx, rfl⟩
        cases hng : negB c m
        · have HN : Hid (∀ q, q < m → 0 ≤ c q) := Lib.hid fun q hq => by
            have := anyTo_no.1 hng q hq
            simpa using this
          rw [hng, decide_eq_false_iff_not] at hx
          have HE := Lib.hid (have_eq (E := E) (len := j) HN.out)
          have HEQ := Lib.hid (equal_any m m cap2 wr.heap.size (some ⟨g, 0, none⟩) (some ac) (fun q => (hvE E c j q : Nat)) c wr (by unfold maxLen; omega) (Nat.le_refl _) (HL.out.rd1 0 rfl) (HRC.out.more hzz))
          clear hng
          go_wp2_with fail
          refine HEQ.out.mono ?_
          rintro e w4 ⟨v, rfl, rfl, hb⟩
          have HB4 := Lib.hid (HL.out.keep hb).bel
          clear hb HEQ
          cases ha : anyTo (fun q => (hvE E c j q : Int) != c q) m
          all_goals
            have HA := Lib.hid ha
            clear ha
            go_wp2
            go_ret2
          · exact ⟨_, rfl, _, _, rfl, ⟨fun _ => ⟨rfl, fun q hq => ⟨HN.out q hq, HE.out.1 HA.out q hq⟩⟩, fun _ => rfl⟩, fun _ => rfl, HB4.out⟩
          · refine ⟨_, rfl, _, _, rfl, ⟨fun h => absurd h (by decide), fun h => ?_⟩, fun h => absurd h (by decide), HB4.out⟩
            have := HE.out.2 fun q hq => (h.2 q hq).2
            rw [HA.out] at this; cases this
        · have HN : Hid (¬ CutOk m E j c m) := Lib.hid fun h => by
            obtain ⟨q, hq, hh⟩ := anyTo_iff.1 hng
            have := (h.2 q hq).1
            simp at hh; omega
          rw [hng, decide_eq_true_iff] at hx
          clear hng
          go_wp2
          go_ret2
          exact ⟨_, rfl, _, _, rfl, ⟨fun h => absurd h (by decide), fun h => absurd h HN.out⟩, fun h => absurd h (by decide), HL.out.bel⟩
  · have HN : Hid (¬ CutOk n E len c m) := Lib.hid fun h => hmn h.1
    have hmn2 : ((m : Int) == (n : Int)) = false := by rw [beq_eq_false_iff_ne]; exact fun h => hmn (Int.ofNat_inj.1 h)
    clear hmn
    go_enter Try.func18, Try.ntmps18
    go_wp2
    go_ret2
    exact ⟨_, rfl, _, _, rfl, ⟨fun h => absurd h (by decide), fun h => absurd h HN.out⟩, fun h => absurd h (by decide), Below.refl _ _⟩

def wholeB (E : Ev) (S len : Nat) : Bool := !anyTo (fun i => S.testBit i && (bits .andNot .u32 (pastW E i : Int) (S : Int) != 0)) len
theorem wholeB_iff {n : Int} {E : Ev} {S len : Nat} (hg : runCode n E len = 0) (hS : S < 4294967296) : wholeB E S len = true ↔ Whole E S len := by
  unfold wholeB Whole
  rw [Bool.not_eq_true', anyTo_no]
  refine forall_congr' fun i => forall_congr' fun hi => ?_
  rw [Bool.and_eq_false_iff, bne_eq_false_iff_eq]
  have e := andNot_zero (pastW_lt hg hi) hS
  rw [beq_iff_eq] at e
  rw [e]
  unfold Hb
  constructor
  · rintro (h | h) hb a ha
    · rw [h] at hb; cases hb
    · exact h a ha
  · intro h
    cases hb : S.testBit i
    · exact .inl rfl
    · exact .inr fun a ha => h hb a ha
set_option maxHeartbeats 1000000 in
theorem whole_any (n : Int) (A : Option Addr) (len cap B : Nat) (E : Ev) (S : Nat) (w : World) (hg : runCode n E len = 0) (hS : S < 4294967296) (hr : Rd w B A len (fun i => .int .u32 (pastW E i : Nat))) :
    Calls Try.prog 22 #[.slice A len cap, .int .u32 S] w (Gives fun v w' => v = .bool (wholeB E S len) ∧ w = w') := by
  have h30 := (runCode_ok hg).1.2.2
  have HG := Lib.hid hg; clear hg
  have HR := Lib.hid hr; clear hr
  go_enter Try.func22, Try.ntmps22
  go_wp2
  go_loop [9] (fun i => ∃ k : Nat, k ≤ len ∧ i = .int .i64 k ∧ Hid (∀ j, j < k → (S.testBit j && (bits .andNot .u32 (pastW E j : Int) (S : Int) != 0)) = false)) (fun i => len - (intOf i).toNat)
  case atStart => exact ⟨0, by omega, rfl, fun j hj => absurd hj (by omega)⟩
  case round =>
    obtain ⟨k, hk, rfl, HA⟩ := hrel
    by_cases hlt : k < len
    · obtain ⟨ad, rfl, _, hc⟩ := HR.out (by omega)
      have hck := hc k hlt
      clear hc
      have hbit := bit_at (i := k) hS
      obtain ⟨z, hz⟩ : ∃ z, (bits .andNot .u32 (pastW E k : Int) (S : Int) == 0) = z := ⟨_, rfl⟩
      have HZ : Hid ((bits .andNot .u32 (pastW E k : Int) (S : Int) != 0) = !z) := Lib.hid (by rw [← hz]; rfl)
      cases hb : S.testBit k
      case' false =>
        have HK : Hid ((S.testBit k && (bits .andNot .u32 (pastW E k : Int) (S : Int) != 0)) = false) := Lib.hid (by rw [hb]; rfl)
      case' true =>
        have HK : Hid ((S.testBit k && (bits .andNot .u32 (pastW E k : Int) (S : Int) != 0)) = !z) := Lib.hid (by rw [hb, HZ.out]; rfl)
        cases z
      case true.false =>
        have HN : Hid (anyTo (fun i => S.testBit i && (bits .andNot .u32 (pastW E i : Int) (S : Int) != 0)) len = true) := Lib.hid (anyTo_iff.2 ⟨k, hlt, HK.out⟩)
        rw [hb] at hbit
        clear hb
        go_wp2
        go_ret
        exact ⟨_, rfl, by rw [wholeB, HN.out]; rfl, rfl⟩
      all_goals
        rw [hb] at hbit
        clear hb
        go_wp2
        go_round
        case rel => exact ⟨k + 1, by omega, by go_num, fun j hj => (Nat.lt_succ_iff_lt_or_eq.1 hj).elim (HA.out j) (fun e => by subst e; exact HK.out)⟩
        case measure => simp [intOf]; omega
    · obtain rfl : k = len := by omega
      have HN : Hid (anyTo (fun i => S.testBit i && (bits .andNot .u32 (pastW E i : Int) (S : Int) != 0)) k = false) := Lib.hid (anyTo_no.2 HA.out)
      go_wp2
      go_ret
      exact ⟨_, rfl, by rw [wholeB, HN.out]; rfl, rfl⟩

/-- cut.Is, whatever it is asked. -/
def IsOut (n : Int) (E : Ev) (len : Nat) (c : Nat → Int) (m : Nat) (b : Bool) (x : Int) : Prop :=
  (x ≠ 0 → b = false) ∧ (x = 0 ↔ ∃ n' : Nat, n = n' ∧ runCode n E len = 0 ∧ CutOk n' E len c m) ∧ (x = 0 → (b = true ↔ WholeC E c len))
set_option maxHeartbeats 1000000 in
theorem is_any (n : Int) (A : Option Addr) (len cap B : Nat) (E : Ev) (A2 : Option Addr) (m cap2 : Nat) (c : Nat → Int) (w : World) (hlen : len ≤ maxLen) (hm : m ≤ maxLen) (hB : B ≤ w.heap.size) (hr : Rd w B A (len * 3) (evF E)) (hr2 : Rd w B A2 m (numV c)) :
    Calls Try.prog 9 #[.int .i64 n, .slice A len cap, .slice A2 m cap2] w
      (Gives fun v w' => ∃ (b : Bool) (x : Int), v = .tuple #[.bool b, .int .i64 x] ∧ IsOut n E len c m b x ∧ Below w.heap.size w w') := by
  have HR := Lib.hid (hr.more hB); clear hr
  have HR2 := Lib.hid (hr2.more hB); clear hr2
  have HC := Lib.hid (check_any n A len cap w.heap.size E w hlen (Nat.le_refl _) HR.out)
  have HM := Lib.hid hm; clear hm hlen
  by_cases hg : runCode n E len = 0
  · have HG := Lib.hid hg
    obtain ⟨k, rfl⟩ := Int.eq_ofNat_of_zero_le (by have := (runCode_ok hg).1.1; omega : 0 ≤ n)
    have h30 := (runCode_ok hg).1.2.2
    clear hg
    go_enter Try.func9, Try.ntmps9
    go_wp2_with fail
    refine (int_is_b HC.out HG.out).mono ?_
    rintro e w1 ⟨rfl, hb⟩
    have HB := Lib.hid hb; clear hb HC
    go_wp2_with fail
    refine (in_any k A len cap w.heap.size E A2 m cap2 c w1 HG.out HM.out HB.out.size (HR.out.below HB.out) (HR2.out.below HB.out)).mono ?_
    rintro e w2 ⟨v, rfl, S, x, rfl, hx, hS, hb⟩
    have HB2 := Lib.hid (HB.out.trans (hb.mono HB.out.size)); clear hb HB
    by_cases h0 : x = 0
    · have hok := hx.1 h0
      have HOK := Lib.hid hok
      obtain rfl := hS h0
      subst h0
      clear hx hok hS
      have HS := Lib.hid (Nat.lt_of_lt_of_le (cutS_lt E c len) (Nat.pow_le_pow_right (n := 2) (by omega) (by omega : len ≤ 32)))
      go_wp2_with fail
      refine (past_any k A len cap w.heap.size E w2 HG.out HB2.out.size (HR.out.below HB2.out)).mono ?_
      rintro e w3 ⟨rfl, ho, hb⟩
      have HP : Hid (Rd w3 w3.heap.size (some ⟨w2.heap.size + 2, 0, none⟩) len (fun i => .int .u32 (pastW E i : Nat))) := Lib.hid (by
        have := ho.rd
        rw [Nat.mul_one] at this
        refine this.congr fun j hj => ?_
        show Value.int .u32 (((if j < len then pastW E j else 0 : Nat)) : Int) = _
        rw [if_pos hj])
      have HB3 := Lib.hid (HB2.out.trans (hb.mono HB2.out.size)); clear hb HB2 ho
      go_wp2_with fail
      refine (whole_any k _ len len _ E (cutS E c len) w3 HG.out HS.out HP.out).mono ?_
      rintro e w4 ⟨v, rfl, rfl, rfl⟩
      go_wp2
      go_ret2
      exact ⟨_, rfl, _, _, rfl, ⟨fun h => absurd rfl h, ⟨fun _ => ⟨k, rfl, HG.out, HOK.out⟩, fun _ => rfl⟩, fun _ => (wholeB_iff HG.out HS.out).trans (whole_cut E c len)⟩, HB3.out⟩
    · have HX : Hid (IsOut k E len c m false x) := Lib.hid ⟨fun _ => rfl, ⟨fun h => absurd h h0, fun ⟨n', e, _, h⟩ => by obtain rfl := Int.ofNat_inj.1 e; exact hx.2 h⟩, fun h => absurd h h0⟩
      have hx1 : (x != 0) = true := by simpa using h0
      clear hx hS h0
      go_wp2
      go_ret2
      exact ⟨_, rfl, _, _, rfl, HX.out, HB2.out⟩
  · have hg2 : (runCode n E len != 0) = true := by simpa using hg
    have HX : Hid (IsOut n E len c m false (runCode n E len)) := Lib.hid ⟨fun _ => rfl, ⟨fun h => absurd h hg, fun ⟨n', e, h, _⟩ => h⟩, fun h => absurd h hg⟩
    clear hg
    go_enter Try.func9, Try.ntmps9
    go_wp2_with fail
    refine HC.out.mono ?_
    rintro e w1 ⟨rfl, hb⟩
    have HB := Lib.hid hb; clear hb HC
    go_wp2
    go_ret2
    exact ⟨_, rfl, _, _, rfl, HX.out, HB.out⟩
end Go.Proofs.Ythonnpimfidkdaa
