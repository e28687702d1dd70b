/- The law CausalAll, walked. -/
import Derived.Test.YtiljnddjecbmfaaCaAll
set_option linter.unusedVariables false
set_option linter.unusedSimpArgs false
namespace Go.Proofs.Ytiljnddjecbmfaa
open Go.RowKit Go.Maps Go.MapKept

abbrev Z0 : Mv := ⟨fun _ => 0, fun _ => 0, fun _ => 0, fun _ => 0⟩
abbrev mvs (A : Option Addr) (q cap : Nat) (M : Mv) : LRow := ⟨A, 34, 4, q, cap, mvF M⟩
theorem app_push (M : Mv) (m : Nat) (N : Mv) (q : Nat) (a b c d : Int) : (M.app m N).push (m + q) a b c d = M.app m (N.push q a b c d) := by
  have key : ∀ (f g : Nat → Int) (x : Int), (fun j => if j < m then f j else upd g q x (j - m)) = upd (fun j => if j < m then f j else g (j - m)) (m + q) x := by
    intro f g x
    funext j
    rw [upd_apply, upd_apply]
    by_cases h : j < m
    · rw [if_pos h, if_neg (by omega), if_pos h]
    · rw [if_neg h, if_neg h]
      by_cases e : j = m + q
      · rw [if_pos e, if_pos (by omega)]
      · rw [if_neg e, if_neg (by omega)]
  unfold Mv.app Mv.push
  simp only [key]
/-- What has been written down of the last part of the script. -/
structure Cov (many i k q : Nat) (N : Mv) : Prop where
  kd : ∀ j, j < q → N.k j = 2
  old : ∀ i', i' < i → ∀ k', k' < many → ∃ j, j < q ∧ N.t j = (i' : Nat) ∧ N.v j = (k' : Nat)
  new : ∀ k', k ≤ k' → k' < many → ∃ j, j < q ∧ N.t j = (i : Nat) ∧ N.v j = (k' : Nat)
theorem Cov.start (many : Nat) (N : Mv) : Cov many 0 many 0 N := ⟨fun j hj => absurd hj (by omega), fun i' hi => absurd hi (by omega), fun k' h1 h2 => absurd h2 (by omega)⟩
theorem Cov.line {many i q : Nat} {N : Mv} (h : Cov many i 0 q N) : Cov many (i + 1) many q N := by
  refine ⟨h.kd, fun i' hi k' hk => ?_, fun k' h1 h2 => absurd h2 (by omega)⟩
  by_cases e : i' = i
  · subst e; exact h.new k' (by omega) hk
  · exact h.old i' (by omega) k' hk
theorem Cov.put {many i k q : Nat} {N : Mv} (h : Cov many i (k + 1) q N) : Cov many i k (q + 1) (N.push q 2 0 (i : Nat) (k : Nat)) := by
  obtain ⟨p1, -, p3, p4⟩ := push_at N q 2 0 (i : Nat) (k : Nat)
  have ho : ∀ j, j < q → (N.push q 2 0 (i : Nat) (k : Nat)).k j = N.k j ∧ (N.push q 2 0 (i : Nat) (k : Nat)).t j = N.t j ∧ (N.push q 2 0 (i : Nat) (k : Nat)).v j = N.v j := fun j hj => by
    obtain ⟨a, -, c, d⟩ := push_other N q 2 0 (i : Nat) (k : Nat) (show j ≠ q by omega)
    exact ⟨a, c, d⟩
  refine ⟨fun j hj => ?_, fun i' hi k' hk => ?_, fun k' h1 h2 => ?_⟩
  · by_cases e : j = q
    · subst e; exact p1
    · rw [(ho j (by omega)).1]; exact h.kd j (by omega)
  · obtain ⟨j, j1, j2, j3⟩ := h.old i' hi k' hk
    exact ⟨j, by omega, by rw [(ho j j1).2.1]; exact j2, by rw [(ho j j1).2.2]; exact j3⟩
  · by_cases e : k' = k
    · subst e; exact ⟨q, by omega, p3, p4⟩
    · obtain ⟨j, j1, j2, j3⟩ := h.new k' (by omega) h2
      exact ⟨j, by omega, by rw [(ho j j1).2.1]; exact j2, by rw [(ho j j1).2.2]; exact j3⟩
/-- How many are told. -/
def cntM (n : Int) (M : Mv) : Nat → Nat
  | 0 => 0
  | j + 1 => cntM n M j + if M.k j = 1 ∧ (0 ≤ M.f j ∧ M.f j < n) then 1 else 0
theorem cntM_le (n : Int) (M : Mv) : ∀ j, cntM n M j ≤ j
  | 0 => Nat.le_refl _
  | j + 1 => by have := cntM_le n M j; rw [cntM]; split <;> omega
theorem cntM_m (n : Nat) (M : Mv) : ∀ j, (caE n M j).m = cntM n M j
  | 0 => rfl
  | j + 1 => by
    have ih := cntM_m n M j
    have hs := step_m n (M.k j) (M.f j) (M.t j) (M.v j) (caE n M j)
    rw [cntM, ← ih]
    show (caStep n (M.k j) (M.f j) (M.t j) (M.v j) (caE n M j)).2.m = _
    rcases hs with ⟨h1, h2, h3, _⟩ | ⟨h1, h2, _⟩
    · rw [h3, if_pos ⟨h1, by simpa [inB] using h2⟩]
    · rw [h2, if_neg (fun h => h1 ⟨h.1, by simpa [inB] using h.2⟩)]; rfl
set_option maxHeartbeats 800000 in
theorem once_all (many cap B : Nat) (A : Option Addr) (f : Nat → Int) (w : World) (hn : many ≤ 60) (hr : Rd w B A many (fun j => .int .i64 (f j))) (hf : ∀ i : Nat, i < many → hasB f many (i : Int) = true) :
    Calls Try.prog 11 #[.int .i64 many, .slice A many cap] w fun e w' => e = .returned (.bool true) ∧ w = w' := by
  have HR := Lib.hid hr; clear hr
  have HF := Lib.hid hf; clear hf
  go_enter Try.func11, Try.ntmps11
  go_wp2
  go_loop [5] (fun x => ∃ i : Nat, i ≤ many ∧ x = .int .i64 i) (fun x => many - (intOf x).toNat)
  case atStart => exact ⟨0, by omega, rfl⟩
  case round =>
    obtain ⟨i, hi, rfl⟩ := hrel
    by_cases hlt : i < many
    · have HB := Lib.hid (HF.out i hlt)
      go_wp2_with (go_at_call 9; refine (has_is _ _ _ _ _ f i _ (by unfold maxLen; omega) HR.out HB.out).mono ?_; rintro e w' ⟨rfl, rfl⟩)
      go_round
      case rel => exact ⟨i + 1, by omega, by go_num⟩
      case measure => simp [intOf]; omega
    · obtain rfl : i = many := by omega
      go_wp2
      go_ret
      exact ⟨rfl, rfl⟩
set_option maxRecDepth 100000 in
set_option maxHeartbeats 6400000 in
theorem causalAll_good (n m cap : Nat) (A : Option Addr) (M : Mv) (w : World) (hr : Rd w w.heap.size A (m * 4) (mvF M)) (h1 : 1 ≤ n) (h4 : n ≤ 4) (hm : m ≤ 11) :
    Calls Try.prog 4 #[.int .i64 n, .slice A m cap] w fun e w' => e = .returned (.bool true) ∧ Below w.heap.size w w' := by
  have HR := Lib.hid hr; clear hr
  go_enter Try.func4, Try.ntmps4
  go_wp2
  go_loopw [5, 24] (fun yv iv wr => ∃ j : Nat, j ≤ m ∧ iv = .int .i64 j ∧ yv = .int .i64 ((cntM (n : Int) M j : Nat) : Int) ∧ Hid (Below w.heap.size w wr)) (fun _ iv _ => m - (intOf iv).toNat)
  case atStart => exact ⟨0, by omega, rfl, rfl, Lib.hid (Below.refl _ _)⟩
  case round =>
    obtain ⟨j, hj, rfl, rfl, HB⟩ := hrel
    have hcj := cntM_le n M j
    have HC : Hid (cntM n M (j + 1) = cntM n M j + if M.k j = 1 ∧ (0 ≤ M.f j ∧ M.f j < n) then 1 else 0) := Lib.hid rfl
    by_cases hlt : j < m
    · obtain ⟨ad, rfl, hbl, m0, m1, m2, m3⟩ := (HR.out.below HB.out).rec4 hlt
      clear hbl
      generalize cntM n M j = c at *
      have HB1 := Lib.hid (HB.out.alloc HB.out.size (.cells #[.int .i64 (M.k j), .int .i64 (M.f j), .int .i64 (M.t j), .int .i64 (M.v j)] 34))
      clear HB
      by_cases hk : M.k j = 1
      · rw [hk] at m0 HB1
        have HB2 := Lib.hid (HB1.out.alloc HB1.out.size (.cells #[.int .i64 (M.f j)] 3))
        by_cases hf : 0 ≤ M.f j ∧ M.f j < n
        · have HC2 := Lib.hid (HC.out.trans (by rw [if_pos ⟨hk, hf⟩]))
          have hfb : (decide (0 ≤ M.f j) && decide (M.f j < (n : Int))) = true := by simpa using hf
          clear hk hf
          go_wp2_with fail
          refine (inside1 true (n : Int) (M.f j) (wr.alloc (.cells #[.int .i64 1, .int .i64 (M.f j), .int .i64 (M.t j), .int .i64 (M.v j)] 34)) 3 (wr.heap.size + 1) (by simp) hfb).mono ?_
          rintro e w3 ⟨rfl, rfl⟩
          go_wp2
          go_roundw
          case rel => exact ⟨j + 1, by omega, by go_num, by rw [HC2.out]; go_num, HB2⟩
          case measure => simp [intOf]; omega
        · have HC2 := Lib.hid (HC.out.trans (by rw [if_neg (fun h => hf h.2)]))
          have hfb : (decide (0 ≤ M.f j) && decide (M.f j < (n : Int))) = false := by
            rw [Bool.and_eq_false_iff, decide_eq_false_iff_not, decide_eq_false_iff_not]; omega
          clear hk hf
          go_wp2_with fail
          refine (inside1 false (n : Int) (M.f j) (wr.alloc (.cells #[.int .i64 1, .int .i64 (M.f j), .int .i64 (M.t j), .int .i64 (M.v j)] 34)) 3 (wr.heap.size + 1) (by simp) hfb).mono ?_
          rintro e w3 ⟨rfl, rfl⟩
          go_wp2
          go_roundw
          case rel => exact ⟨j + 1, by omega, by go_num, by rw [HC2.out]; rfl, HB2⟩
          case measure => simp [intOf]; omega
      · have HC2 := Lib.hid (HC.out.trans (by rw [if_neg (fun h => hk h.1)]))
        have ek : (M.k j == 1) = false := by rw [beq_eq_false_iff_ne]; exact hk
        clear hk
        go_wp2
        go_roundw
        case rel => exact ⟨j + 1, by omega, by go_num, by rw [HC2.out]; rfl, HB1⟩
        case measure => simp [intOf]; omega
    · obtain rfl : j = m := by omega
      have HMM : Hid ((caE n (Z0.app 0 M) j).m = cntM n M j) := Lib.hid (by
        rw [← cntM_m, caE_congr (N := M) fun q _ => by
          have := app_new Z0 0 M q
          rwa [Nat.zero_add] at this])
      have HBP : Hid (∀ q : Nat, q ≤ 44 → playedB n ((j + q : Nat) : Int) = true) := Lib.hid fun q hq => playedB_iff.2 ⟨by omega, by omega, by omega⟩
      generalize cntM n M j = many at *
      clear HC
      have HL1 : Hid (Lay w (wr.alloc (.cells #[] 34)) [mvs (some ⟨wr.heap.size, 0, none⟩) 0 0 Z0]) := Lib.hid (((Lay.nil w).keep HB.out).new #[] 34 4 0 (mvF Z0) _ rfl rfl (by unfold maxLen; omega) (fun j hj => absurd hj (by omega)))
      go_wp2_with (first
        | (at_builtin; refine wpList_apMvs rfl (.tmp 41) (.tmp 42) rfl w.heap.size rfl (HL1.out.own 0 _ rfl) rfl (HR.out.below HL1.out.bel) j (Nat.zero_add j) (by unfold maxLen; omega) (by omega) HL1.out.size ?_; intro A3 c3 w3 ho3 hg3 ha3
           have HL3 : Hid (Lay w w3 [mvs A3 j c3 (Z0.app 0 M)]) := Lib.hid (HL1.out.app 0 rfl ho3 hg3 ha3)
           clear ho3 hg3 ha3 HL1)
        | fail)
      generalize Z0.app 0 M = MM at *
      go_loopw [8, 9] (fun lv iv wr => ∃ (i q : Nat) (A' : Option Addr) (cap' : Nat) (N : Mv), i ≤ n ∧ iv = .int .i64 (i : Nat) ∧ lv = .slice A' (j + q) cap' ∧ q ≤ i * 11 ∧ Hid (Cov many i many q N) ∧ Hid (Lay w wr [mvs A' (j + q) cap' (MM.app j N)])) (fun _ iv _ => n - (intOf iv).toNat)
      case atStart => exact ⟨0, 0, A3, c3, Z0, by omega, rfl, rfl, by omega, Lib.hid (Cov.start _ _), Lib.hid (HL3.out.congr 0 (mvF (MM.app j Z0)) rfl (fun k hk => (mvF_app_old MM j Z0 (by simpa using hk)).symm))⟩
      case round =>
        clear HL3
        obtain ⟨i, q, A', cap', N, hi, rfl, rfl, hq, HCV, HL⟩ := hrel
        by_cases hin : i < n
        · go_wp2
          go_loopw [8, 10] (fun lv kv wr => ∃ (k q : Nat) (A' : Option Addr) (cap' : Nat) (N : Mv), k ≤ many ∧ kv = .int .i64 ((k : Int) - 1) ∧ lv = .slice A' (j + q) cap' ∧ q + k ≤ i * 11 + many ∧ Hid (Cov many i k q N) ∧ Hid (Lay w wr [mvs A' (j + q) cap' (MM.app j N)])) (fun _ kv _ => ((intOf kv) + 1).toNat)
          case atStart => exact ⟨many, q, A', cap', N, by omega, rfl, rfl, by omega, HCV, HL⟩
          case round =>
            clear HL HCV
            obtain ⟨k, q, A', cap', N, hk, rfl, rfl, hq, HCV, HL⟩ := hrel
            by_cases hk0 : k = 0
            · subst hk0
              have HCV2 := Lib.hid HCV.out.line
              go_wp2
              go_roundw
              case rel => exact ⟨i + 1, q, A', cap', N, by omega, by go_num, rfl, by omega, HCV2, HL⟩
              case measure => simp [intOf]; omega
            · obtain ⟨k, rfl⟩ : ∃ k', k = k' + 1 := ⟨k - 1, by omega⟩
              have ek : ((k + 1 : Nat) : Int) - 1 = (k : Nat) := by omega
              rw [ek]
              have HCV2 := Lib.hid HCV.out.put
              go_wp2_with (first
                | (at_builtin; refine wpList_apMv rfl (.tmp 55) (.tmp 59) rfl w.heap.size rfl _ 2 0 (i : Nat) (k : Nat) rfl rfl (HL.out.own 0 _ rfl) rfl (by omega) HL.out.size ?_; intro A3 c3 w3 ho3 hg3 ha3
                   have HL3 : Hid (Lay w w3 [mvs A3 (j + q + 1) c3 (MM.app j (N.push q 2 0 (i : Nat) (k : Nat)))]) := Lib.hid (by rw [← app_push]; exact ((HL.out.alloc _).app 0 rfl ho3 hg3 ha3))
                   clear ho3 hg3 ha3 HL)
                | fail)
              go_roundw
              case rel => exact ⟨k, q + 1, A3, c3, _, by omega, by go_num, rfl, by omega, HCV2, HL3⟩
              case measure => first | (simp [intOf]; done) | (simp [intOf]; omega)
        · obtain rfl : i = n := by omega
          have hq44 : q ≤ 44 := by omega
          have HBQ := Lib.hid (HBP.out q hq44)
          have HD : Hid (∀ p, p < i → (caE i (MM.app j N) (j + q)).m = many ∧ ∀ k, k < many → k ∈ (caE i (MM.app j N) (j + q)).told p) := Lib.hid fun p hp => by
            have := drain_all (n := i) (m := j) (M := MM) (N := N) (q := q) HCV.out.kd (fun i' hi k hk => HCV.out.old i' hi k (by rw [← HMM.out]; exact hk)) hp
            rw [HMM.out] at this
            exact this
          have HBB := Lib.hid (caE_B i (MM.app j N) (j + q))
          clear HCV HMM HBP hq
          go_wp2_with fail
          refine (ca_good i wr (j + q) cap' wr.heap.size A' (MM.app j N) h1 (by omega) (by omega) (Nat.le_refl _) (HL.out.rd 0 rfl)).mono ?_
          rintro e w1 ⟨v, rfl, g, cl, gt, gc, cc, gm, cm, AL, bc, f, AC, cC, rfl, br, hL⟩
          have HL2 := Lib.hid ((LayQ.newB hL [.slice AC (j + q) cC, .slice (some ⟨gt, 0, none⟩) i i] 26 2 rfl _ rfl).rot5)
          have HBL : Hid (Below w.heap.size w wr) := Lib.hid HL.out.bel
          have hsz : w.heap.size ≤ wr.heap.size := HL.out.bel.size
          clear hL HL
          generalize caE i (MM.app j N) (j + q) = s at *
          go_wp2_with fail
          refine at_layQ (F := fun W' => Calls _ _ _ W' _) HL2.out ?_
          intro W hW
          have HW := Lib.hid hW
          clear hW HL2
          generalize w1.heap.size = q1 at HW ⊢
          refine (bool_is (played_any i ((j + q : Nat) : Int) _) HBQ.out).mono ?_
          rintro e w3 ⟨rfl, rfl⟩
          have c0 := HW.out.lay.cellB 5 rfl 0 (by omega)
          have c1 := HW.out.lay.cellB 5 rfl 1 (by omega)
          simp only [ofL_0, ofL_1] at c0 c1
          go_wp2
          go_loop [86] (fun v => ∃ p : Nat, p ≤ i ∧ v = .int .i64 (p : Nat)) (fun v => i - (intOf v).toNat)
          case atStart => exact ⟨0, by omega, rfl⟩
          case round =>
            obtain ⟨p, hp, rfl⟩ := hrel
            by_cases hpi : p < i
            · obtain ⟨A1, cap1, d1, ha1, ha2, hr1⟩ := told_rd HW.out hpi
              obtain ⟨e1, e2⟩ := HD.out p hpi
              have hlen : (s.told p).length = many := by
                have h5 := HBB.out.len p
                have h6 : (List.range many).length ≤ (s.told p).length := List.nodup_range.length_le_of_subset fun k hk => e2 k (List.mem_range.1 hk)
                rw [List.length_range] at h6
                omega
              rw [hlen] at d1 hr1
              have HO := Lib.hid (once_all many cap1 _ A1 (fun q => (((s.told p)[q]?.getD 0 : Nat) : Int)) W (by omega) hr1 (fun k hk => hasB_iff.2 (by
                obtain ⟨q, hq⟩ := List.getElem?_of_mem (e2 k hk)
                exact ⟨q, by rw [← hlen]; exact (List.getElem?_eq_some_iff.1 hq).1, by rw [hq]; rfl⟩)))
              clear hr1 e1 e2 hlen
              go_wp2_with fail
              refine HO.out.mono ?_
              rintro e w5 ⟨rfl, rfl⟩
              go_wp2
              go_round
              case rel => exact ⟨p + 1, by omega, by go_num⟩
              case measure => simp [intOf]; omega
            · obtain rfl : p = i := by omega
              go_wp2
              go_ret
              exact ⟨rfl, HBL.out.trans (HW.out.lay.bel.mono hsz)⟩
set_option maxRecDepth 100000 in
set_option maxHeartbeats 6400000 in
theorem causalAll_neg (n : Int) (m cap : Nat) (A : Option Addr) (M : Mv) (w : World) (hr : Rd w w.heap.size A (m * 4) (mvF M)) (h1 : n < 1) (hm : m ≤ 11) :
    Calls Try.prog 4 #[.int .i64 n, .slice A m cap] w fun e w' => e = .returned (.bool true) ∧ Below w.heap.size w w' := by
  have HR := Lib.hid hr; clear hr
  have HBP : Hid (playedB n ((m : Nat) : Int) = false) := Lib.hid (by
    cases h : playedB n (m : Int) with
    | false => rfl
    | true => have := (playedB_iff.1 h).1; omega)
  go_enter Try.func4, Try.ntmps4
  go_wp2
  go_loopw [24] (fun iv wr => ∃ j : Nat, j ≤ m ∧ iv = .int .i64 j ∧ Hid (Below w.heap.size w wr)) (fun iv _ => m - (intOf iv).toNat)
  case atStart => exact ⟨0, by omega, rfl, Lib.hid (Below.refl _ _)⟩
  case round =>
    obtain ⟨j, hj, rfl, HB⟩ := hrel
    by_cases hlt : j < m
    · obtain ⟨ad, rfl, hbl, m0, m1, m2, m3⟩ := (HR.out.below HB.out).rec4 hlt
      clear hbl
      have HB1 := Lib.hid (HB.out.alloc HB.out.size (.cells #[.int .i64 (M.k j), .int .i64 (M.f j), .int .i64 (M.t j), .int .i64 (M.v j)] 34))
      clear HB
      by_cases hk : M.k j = 1
      · rw [hk] at m0 HB1
        have HB2 := Lib.hid (HB1.out.alloc HB1.out.size (.cells #[.int .i64 (M.f j)] 3))
        have hfb : (decide (0 ≤ M.f j) && decide (M.f j < n)) = false := by
          rw [Bool.and_eq_false_iff, decide_eq_false_iff_not, decide_eq_false_iff_not]; omega
        clear hk
        go_wp2_with fail
        refine (inside1 false n (M.f j) (wr.alloc (.cells #[.int .i64 1, .int .i64 (M.f j), .int .i64 (M.t j), .int .i64 (M.v j)] 34)) 3 (wr.heap.size + 1) (by simp) hfb).mono ?_
        rintro e w3 ⟨rfl, rfl⟩
        go_wp2
        go_roundw
        case rel => exact ⟨j + 1, by omega, by go_num, HB2⟩
        case measure => simp [intOf]; omega
      · have ek : (M.k j == 1) = false := by rw [beq_eq_false_iff_ne]; exact hk
        clear hk
        go_wp2
        go_roundw
        case rel => exact ⟨j + 1, by omega, by go_num, HB1⟩
        case measure => simp [intOf]; omega
    · obtain rfl : j = m := by omega
      have HL1 : Hid (Lay w (wr.alloc (.cells #[] 34)) [mvs (some ⟨wr.heap.size, 0, none⟩) 0 0 Z0]) := Lib.hid (((Lay.nil w).keep HB.out).new #[] 34 4 0 (mvF Z0) _ rfl rfl (by unfold maxLen; omega) (fun j hj => absurd hj (by omega)))
      go_wp2_with (first
        | (at_builtin; refine wpList_apMvs rfl (.tmp 41) (.tmp 42) rfl w.heap.size rfl (HL1.out.own 0 _ rfl) rfl (HR.out.below HL1.out.bel) j (Nat.zero_add j) (by unfold maxLen; omega) (by omega) HL1.out.size ?_; intro A3 c3 w3 ho3 hg3 ha3
           have HL3 : Hid (Lay w w3 [mvs A3 j c3 (Z0.app 0 M)]) := Lib.hid (HL1.out.app 0 rfl ho3 hg3 ha3)
           clear ho3 hg3 ha3 HL1)
        | fail)
      have hn0 : ¬ 0 < n := by omega
      clear h1
      go_loopw [8, 9] (fun lv iv wr => lv = .slice A3 j c3 ∧ iv = .int .i64 0 ∧ Hid (Lay w wr [mvs A3 j c3 (Z0.app 0 M)])) (fun _ _ _ => 0)
      case atStart => exact ⟨rfl, rfl, HL3⟩
      case round =>
        obtain ⟨rfl, rfl, HL5⟩ := hrel
        clear HL3
        go_wp2_with fail
        refine (ca_bad n j c3 A3 wr (by unfold maxLen; omega) HBP.out).mono ?_
        rintro e w4 ⟨rfl, hb⟩
        have HL6 := Lib.hid (HL5.out.bel.trans (hb.mono HL5.out.bel.size))
        clear hb HL5
        go_wp2_with (go_at_call 7; refine (bool_is (played_any n j _) HBP.out).mono ?_; rintro e w3 ⟨rfl, rfl⟩)
        go_ret
        exact ⟨rfl, HL6.out.alloc HL6.out.size _⟩
theorem causalAll_big (n : Int) (m cap : Nat) (A : Option Addr) (w : World) (hm : m ≤ maxLen) (h : 4 < n ∨ 11 < m) :
    Calls Try.prog 4 #[.int .i64 n, .slice A m cap] w fun e w' => e = .returned (.bool true) ∧ Below w.heap.size w w' := by
  unfold maxLen at hm
  go_enter Try.func4, Try.ntmps4
  go_upto_region 3 with (fail)
  all_goals first
    | (exfalso; omega)
    | (go_wp2; go_ret; exact ⟨rfl, Below.refl _ _⟩)
    | (go_ret; exact ⟨rfl, Below.refl _ _⟩)
theorem causalAll_all (n : Int) (A : Option Addr) (m cap : Nat) (M : Mv) (w : World) (_ : (Lit.int .i64 n).wf = true) (hmc : m ≤ cap ∧ cap ≤ maxLen) (hr : Rd w w.heap.size A (m * 4) (mvF M)) :
    Calls Try.prog 4 #[.int .i64 n, .slice A m cap] w fun e w' => e = .returned (.bool true) ∧ Below w.heap.size w w' := by
  by_cases h : 4 < n ∨ 11 < m
  · exact causalAll_big n m cap A w (by omega) h
  · by_cases hn : n < 1
    · exact causalAll_neg n m cap A M w hr hn (by omega)
    · obtain ⟨n, rfl⟩ := Int.eq_ofNat_of_zero_le (show 0 ≤ n by omega)
      exact causalAll_good n m cap A M w hr (by omega) (by omega) (by omega)
end Go.Proofs.Ytiljnddjecbmfaa
