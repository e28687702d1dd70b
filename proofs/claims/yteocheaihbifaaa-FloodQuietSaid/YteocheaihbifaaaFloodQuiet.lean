/- The law FloodQuiet, walked. -/
import Derived.Test.YteocheaihbifaaaFloodAgree
set_option linter.unusedVariables false
set_option linter.unusedSimpArgs false
namespace Go.Proofs.Yteocheaihbifaaa
open Go.RowKit

/-- Behind k crashes: was none of them in the round? -/
def qB (c : Crs) (r : Int) (b : Bool) (k : Nat) : Bool := b && !anyTo (fun i => (c.r i : Int) == r) k
theorem qB_0 (c : Crs) (r : Int) (b : Bool) : qB c r b 0 = b := by simp [qB, anyTo]
theorem qB_no {c : Crs} {r : Int} {b : Bool} {k : Nat} (h : ((c.r k : Int) == r) = false) : qB c r b (k + 1) = qB c r b k := by simp only [qB, anyTo, h, Bool.or_false]
theorem qB_yes {c : Crs} {r : Int} {b : Bool} {k : Nat} (h : ((c.r k : Int) == r) = true) : qB c r b (k + 1) = false := by simp only [qB, anyTo, h, Bool.or_true, Bool.not_true, Bool.and_false]
theorem qB_off {c : Crs} {r : Int} {b : Bool} {k : Nat} (h : qB c r b k = false) : qB c r b (k + 1) = false := by
  cases hq : ((c.r k : Int) == r)
  · rw [qB_no hq]; exact h
  · exact qB_yes hq
/-- The first that is there, among the first k. -/
def fst1 (T : Nat) : Nat → Int
  | 0 => -1
  | k + 1 => if T.testBit k ∧ fst1 T k < 0 then k else fst1 T k
theorem fst1_is (T : Nat) : ∀ k, (fst1 T k = -1 ∧ ∀ j, j < k → T.testBit j = false) ∨ ∃ f : Nat, f < k ∧ fst1 T k = f ∧ T.testBit f = true
  | 0 => .inl ⟨rfl, fun j h => by omega⟩
  | k + 1 => by
    rcases fst1_is T k with ⟨h1, h2⟩ | ⟨f, h1, h2, h3⟩
    · cases hb : T.testBit k
      · refine .inl ⟨by rw [fst1, if_neg (by rw [hb]; simp)]; exact h1, fun j hj => (Nat.lt_succ_iff_lt_or_eq.1 hj).elim (h2 j) (fun e => by subst e; exact hb)⟩
      · exact .inr ⟨k, by omega, by rw [fst1, if_pos ⟨hb, by omega⟩], hb⟩
    · exact .inr ⟨f, by omega, by rw [fst1, if_neg (by omega)]; exact h2, h3⟩
theorem fst1_no {T k : Nat} (h : T.testBit k = false) : fst1 T (k + 1) = fst1 T k := by rw [fst1, if_neg (by rw [h]; simp)]
theorem fst1_new {T k : Nat} (h : T.testBit k = true) (h0 : fst1 T k < 0) : fst1 T (k + 1) = k := by rw [fst1, if_pos ⟨h, h0⟩]
theorem fst1_old {T k : Nat} (h0 : 0 ≤ fst1 T k) : fst1 T (k + 1) = fst1 T k := by rw [fst1, if_neg (by omega)]

set_option maxRecDepth 100000 in
set_option maxHeartbeats 3200000 in
theorem floodQuiet_good (A0 : Option Addr) (cap0 : Nat) (v : Nat → Int) (A : Option Addr) (cap : Nat) (c : Crs) (hc : c.Ok) (r : Int) (w : World) (hcap : c.m ≤ cap ∧ cap ≤ maxLen)
    (hv : Rd w w.heap.size A0 c.n (fun i => .int .i64 (v i))) (hr : Rd w w.heap.size A (c.m * 3) (crF (fun i => (c.p i : Nat)) (fun i => (c.r i : Nat)) (fun i => (c.q i : Nat)))) :
    Calls Try.prog 4 #[.slice A0 c.n cap0, .slice A c.m cap, .int .i64 c.R, .int .i64 r] w fun e w' => e = .returned (.bool true) ∧ Below w.heap.size w w' := by
  have HP := Lib.hid (play_good A0 cap0 _ v A cap _ c hc w hcap (Nat.le_refl _) (Nat.le_refl _) hv hr)
  have HR := Lib.hid hr
  have HCAP := Lib.hid hcap
  have hn1 := hc.n1; have hn6 := hc.n6; have hR8 := hc.r8; have hcm := hc.m_le
  have HCC := Lib.hid (crs_code hc)
  obtain ⟨T, hT⟩ : ∃ T, (kn c c.R).2 = T := ⟨_, rfl⟩
  have hlt := kn_there_lt (c := c) c.R
  have HW := Lib.hid (w32 hn6 hlt)
  obtain ⟨b0, hb0⟩ : ∃ b0, decide (1 ≤ r ∧ r ≤ (c.R : Int)) = b0 := ⟨_, rfl⟩
  have HT : Hid (qB c r b0 c.m = true → ∀ i j : Nat, T.testBit i = true → T.testBit j = true → outF c v i = outF c v j) := by
    show _ → _
    intro h i j hi hj
    rw [← hT] at hi hj
    unfold qB at h
    rw [Bool.and_eq_true, ← hb0, decide_eq_true_eq, Bool.not_eq_true', anyTo_no] at h
    obtain ⟨⟨h1, h2⟩, h3⟩ := h
    obtain ⟨k, rfl⟩ := Int.eq_ofNat_of_zero_le (by omega : 0 ≤ r)
    refine agree hc v (r := k) ⟨by omega, by omega⟩ (fun i hi e => ?_) hi hj
    have := h3 i hi
    simp [e] at this
  have HD : Hid (∀ i, i < c.m → bitB T (c.p i : Nat) = false) := by
    show ∀ i, _
    intro i hi
    rw [bitB_nat, ← hT]
    cases hb : (kn c c.R).2.testBit (c.p i)
    · rfl
    · exact absurd rfl (((there_end hc _).1 hb).2 i hi)
  have HS : Hid (c.m ≠ c.n → 0 ≤ fst1 T c.n) := by
    show _ → _
    intro h
    obtain ⟨j, hj⟩ := someone hc h
    have hjn := ((there_end hc j).1 hj).1
    rw [hT] at hj
    rcases fst1_is T c.n with ⟨h1, h2⟩ | ⟨f, _, h2, _⟩
    · rw [h2 j hjn] at hj; cases hj
    · omega
  have hTn : ((T : Nat) : Int) < (2 : Int) ^ c.n % 4294967296 := shl_no hn6 (by rw [← hT]; exact hlt)
  rw [hT] at HW HP
  clear hr hcap hc hT hv hlt
  go_enter Try.func4, Try.ntmps4
  go_wp2_with fail
  refine HP.out.mono ?_
  rintro e w1 ⟨u, rfl, g, rfl, hl1⟩
  have HL1 := Lib.hid hl1; clear hl1 HP
  go_wp2_with fail
  refine (int_is_b (check_any A0 c.n cap0 A c.m cap w.heap.size c.R (fun i => (c.p i : Nat)) (fun i => (c.r i : Nat)) c.q w1 HCAP.out HL1.out.size (by unfold maxLen; omega) (HR.out.below HL1.out.bel)) HCC.out).mono ?_
  rintro e w2 ⟨rfl, hw2⟩
  have HL2 := Lib.hid (HL1.out.keep hw2); clear hw2 HL1 HCC HCAP
  obtain ⟨d1, hd1⟩ : ∃ d1, decide ((1 : Int) ≤ r) = d1 := ⟨_, rfl⟩
  obtain ⟨d2, hd2⟩ : ∃ d2, decide (r ≤ (c.R : Int)) = d2 := ⟨_, rfl⟩
  have HB0 : Hid (b0 = (d1 && d2)) := by show b0 = _; rw [← hb0, ← hd1, ← hd2, Bool.decide_and]
  clear hb0
  cases d1
  all_goals
    cases d2
  all_goals
    go_wp2
    clear hd1 hd2 hTn
    go_loopw [58, 12] (fun x y wr => ∃ (k : Nat) (b : Bool), k ≤ c.m ∧ x = .int .i64 k ∧ y = .bool b ∧ Hid (qB c r b0 k = b) ∧ Hid (Lay w wr [arr g 3 c.n (fun i => .int .i64 (outF c v i))])) (fun x _ _ => c.m - (intOf x).toNat)
    case atStart => exact ⟨0, _, by omega, rfl, rfl, (qB_0 c r b0).trans HB0.out, HL2.out⟩
    case round =>
      clear HL2 HB0
      obtain ⟨k, b, hk, rfl, rfl, HQ, HL⟩ := hrel
      by_cases hlt : k < c.m
      · obtain ⟨ad, rfl, _, c0, c1, c2⟩ := (HR.out.below HL.out.bel).crs hlt
        have HDK := Lib.hid (HD.out k hlt)
        have HA : Hid (∀ o, Lay w (wr.alloc o) _) := fun o => HL.out.alloc o
        cases b
        · have HN := Lib.hid (qB_off HQ.out)
          go_wp2_with (first
            | (go_at_call 9; refine (bit_is _ _ _ _ HW.out HDK.out).mono ?_; rintro e w' ⟨rfl, rfl⟩)
            | fail)
          go_roundw
          case rel => exact ⟨k + 1, _, by omega, by go_num, rfl, HN.out, HA.out _⟩
          case measure => simp [intOf]; omega
        · obtain ⟨d, hd⟩ : ∃ d, ((c.r k : Int) == r) = d := ⟨_, rfl⟩
          have hd2 : ((c.r k : Int) != r) = !d := by rw [← hd]; rfl
          have HN : Hid (qB c r b0 (k + 1) = !d) := by
            cases d
            · exact (qB_no hd).trans HQ.out
            · exact qB_yes hd
          clear hd
          cases d
          all_goals
            go_wp2_with (first
              | (go_at_call 9; refine (bit_is _ _ _ _ HW.out HDK.out).mono ?_; rintro e w' ⟨rfl, rfl⟩)
              | fail)
            go_roundw
            case rel => exact ⟨k + 1, _, by omega, by go_num, rfl, HN.out, HA.out _⟩
            case measure => simp [intOf]; omega
      · obtain rfl : k = c.m := by omega
        rw [HQ.out] at HT
        clear HQ HD
        go_wp2
        go_loopw [16, 15] (fun x y wr => ∃ i : Nat, i ≤ c.n ∧ x = .int .i64 i ∧ y = .int .i64 (fst1 T i) ∧ Hid (Lay w wr [arr g 3 c.n (fun i => .int .i64 (outF c v i))])) (fun x _ _ => c.n - (intOf x).toNat)
        case atStart => exact ⟨0, by omega, rfl, rfl, HL.out⟩
        case round =>
          clear HL
          obtain ⟨i, hi, rfl, rfl, HI⟩ := hrel
          by_cases hlt : i < c.n
          · have ci := HI.out.cell1 0 rfl hlt
            cases hb : T.testBit i
            · have HBI := Lib.hid ((bitB_nat T i).trans hb)
              have HN := Lib.hid (fst1_no hb)
              clear hb
              go_wp2_with (first
                | (go_at_call 9; refine (bit_is _ _ _ _ HW.out HBI.out).mono ?_; rintro e w' ⟨rfl, rfl⟩)
                | fail)
              go_roundw
              case rel => exact ⟨i + 1, by omega, by go_num, by rw [HN.out], HI.out⟩
              case measure => simp [intOf]; omega
            · have HBI := Lib.hid ((bitB_nat T i).trans hb)
              by_cases hf : fst1 T i < 0
              · have HN := Lib.hid (fst1_new hb hf)
                have hne : (outF c v i != outF c v i) = false := by simp
                clear hb
                obtain ⟨f, hfe⟩ : ∃ f, fst1 T i = f := ⟨_, rfl⟩
                rw [hfe] at hf ⊢
                clear hfe
                cases b
                all_goals
                  go_wp2_with (first
                    | (go_at_call 9; refine (bit_is _ _ _ _ HW.out HBI.out).mono ?_; rintro e w' ⟨rfl, rfl⟩)
                    | fail)
                  refine wp_text_all (by kernel_rfl) (by kernel_rfl) (by kernel_rfl) (by repeat' (first | (with_reducible apply tame_then) | (with_reducible apply tame_block) | (with_reducible apply tame_scope) | exact tame_gives | exact tame_body (fun _ _ h => ⟨_, h.1⟩))) ?_
                  go_wp2
                  refine headed ?_
                  go_wp2
                  go_roundw
                  case rel => exact ⟨i + 1, by omega, by go_num, by rw [HN.out], HI.out.sim ⟨rfl, rfl, rfl, rfl⟩⟩
                  case measure => simp [intOf]; omega
              · have HN := Lib.hid (fst1_old (T := T) (k := i) (by omega))
                obtain ⟨f, hf1, hf2, hf3⟩ := (fst1_is T i).resolve_left (fun h => by omega)
                have cf := HI.out.cell1 0 rfl (show f < c.n by omega)
                have HE : Hid (b = true → outF c v i = outF c v f) := fun e => HT.out e i f hb hf3
                obtain ⟨x, hx⟩ : ∃ x, outF c v i = x := ⟨_, rfl⟩
                obtain ⟨y, hy⟩ : ∃ y, outF c v f = y := ⟨_, rfl⟩
                rw [hf2] at HN ⊢
                rw [hx] at ci HE
                rw [hy] at cf HE
                clear hx hy hb hf hf2 hf3
                cases b
                · go_wp2_with (first
                    | (go_at_call 9; refine (bit_is _ _ _ _ HW.out HBI.out).mono ?_; rintro e w' ⟨rfl, rfl⟩)
                    | fail)
                  refine wp_text_all (by kernel_rfl) (by kernel_rfl) (by kernel_rfl) (by repeat' (first | (with_reducible apply tame_then) | (with_reducible apply tame_block) | (with_reducible apply tame_scope) | exact tame_gives | exact tame_body (fun _ _ h => ⟨_, h.1⟩))) ?_
                  go_wp2
                  refine headed ?_
                  go_wp2
                  go_roundw
                  case rel => exact ⟨i + 1, by omega, by go_num, by rw [HN.out], HI.out.sim ⟨rfl, rfl, rfl, rfl⟩⟩
                  case measure => simp [intOf]; omega
                · obtain rfl := HE.out rfl
                  go_wp2_with (first
                    | (go_at_call 9; refine (bit_is _ _ _ _ HW.out HBI.out).mono ?_; rintro e w' ⟨rfl, rfl⟩)
                    | fail)
                  refine wp_text_all (by kernel_rfl) (by kernel_rfl) (by kernel_rfl) (by repeat' (first | (with_reducible apply tame_then) | (with_reducible apply tame_block) | (with_reducible apply tame_scope) | exact tame_gives | exact tame_body (fun _ _ h => ⟨_, h.1⟩))) ?_
                  go_wp2
                  refine headed ?_
                  go_wp2
                  go_roundw
                  case rel => exact ⟨i + 1, by omega, by go_num, by rw [HN.out], HI.out.sim ⟨rfl, rfl, rfl, rfl⟩⟩
                  case measure => simp [intOf]; omega
          · obtain rfl : i = c.n := by omega
            by_cases hmn : c.m = c.n
            · have e1 : ((c.m : Int) == (c.n : Int)) = true := by simp [hmn]
              have e2 : (c.m == c.n) = true := by simp [hmn]
              clear hmn
              go_wp2
              go_ret
              exact ⟨rfl, HI.out.bel⟩
            · have e1 : ((c.m : Int) == (c.n : Int)) = false := by rw [beq_eq_false_iff_ne]; omega
              have e2 : (c.m == c.n) = false := by rw [beq_eq_false_iff_ne]; omega
              have e3 := HS.out hmn
              clear hmn
              go_wp2
              go_ret
              exact ⟨rfl, HI.out.bel⟩

set_option maxRecDepth 100000 in
theorem floodQuiet_bad (A0 : Option Addr) (n cap0 : Nat) (A : Option Addr) (m cap : Nat) (R : Int) (p r : Nat → Int) (q : Nat → Nat) (x : Int) (w : World) (hn : n ≤ maxLen) (hcap : m ≤ cap ∧ cap ≤ maxLen)
    (hr : Rd w w.heap.size A (m * 3) (crF p r (fun i => (q i : Nat)))) (hbad : crCode n m R p r q ≠ 0) :
    Calls Try.prog 4 #[.slice A0 n cap0, .slice A m cap, .int .i64 R, .int .i64 x] w fun e w' => e = .returned (.bool true) ∧ Below w.heap.size w w' := by
  have HP := Lib.hid (play_bad A0 n cap0 A m cap _ R p r q w hn hcap (Nat.le_refl _) hr hbad)
  have HC := Lib.hid (fun (W : World) (hb : Below w.heap.size w W) => check_any A0 n cap0 A m cap w.heap.size R p r q W hcap hb.size hn (hr.below hb))
  generalize crCode n m R p r q = e at HP HC hbad
  have he : (e != 0) = true := by simpa using hbad
  clear hr hbad hcap hn
  go_enter Try.func4, Try.ntmps4
  go_wp2_with fail
  refine HP.out.mono ?_
  rintro e w1 ⟨u, rfl, rfl, hw1⟩
  have HW1 := Lib.hid hw1; clear hw1 HP
  go_wp2_with fail
  refine (HC.out w1 HW1.out).mono ?_
  rintro e w2 ⟨rfl, hw2⟩
  have HW2 := Lib.hid (HW1.out.trans (hw2.mono HW1.out.size)); clear hw2
  go_wp2
  go_ret
  exact ⟨rfl, HW2.out⟩
theorem floodQuiet_all (A0 : Option Addr) (n cap0 : Nat) (v : Nat → Int) (A : Option Addr) (m cap : Nat) (p r : Nat → Int) (q : Nat → Int) (R x : Int) (w : World) (hn : n ≤ cap0 ∧ cap0 ≤ maxLen) (_ : ∀ j, j < n → (Lit.int .i64 (v j)).wf = true) (hv : Rd w w.heap.size A0 n (fun i => .int .i64 (v i)))
    (hm : m ≤ cap ∧ cap ≤ maxLen) (hq : ∀ i, i < m → (Lit.int .u32 (q i)).wf = true) (hr : Rd w w.heap.size A (m * 3) (crF p r q)) (_ : (Lit.int .i64 R).wf = true) (_ : (Lit.int .i64 x).wf = true) :
    Calls Try.prog 4 #[.slice A0 n cap0, .slice A m cap, .int .i64 R, .int .i64 x] w fun e w' => e = .returned (.bool true) ∧ Below w.heap.size w w' := by
  obtain ⟨q', hr⟩ := crq_nat hq hr
  by_cases h : crCode n m R p r q' = 0
  · have := floodQuiet_good A0 cap0 v A cap (crsOf n m R p r q') (crs_ok h) x w hm hv (crs_rd h hr)
    rw [← crs_R h] at this
    exact this
  · exact floodQuiet_bad A0 n cap0 A m cap R p r q' x w (by omega) hm hr h
end Go.Proofs.Yteocheaihbifaaa
