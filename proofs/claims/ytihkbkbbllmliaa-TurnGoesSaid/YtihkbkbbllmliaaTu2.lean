/- The walks of turn's 'want', 'come' and 'out'. -/
import Derived.Test.YtihkbkbbllmliaaTu1
import Derived.Test.YtihkbkbbllmliaaShr
set_option linter.unusedVariables false
set_option linter.unusedSimpArgs false
namespace Go.Proofs.Ytihkbkbbllmliaa
open Go.RowKit Go.Maps Go.MapKept

theorem asks_zero (i : Nat) (x : Int) (q : WQ → List Int) : asksTo i 0 x q = q := by funext p; show (if _ then _ else _) = _; rw [if_neg (by omega)]
theorem asks_self (i : Nat) (x : Int) (q : WQ → List Int) : asksTo i (i + 1) x q = asksTo i i x q := by
  funext p
  show (if p.1 = i ∧ p.2 ≠ i ∧ p.2 < i + 1 then q p ++ [x] else q p) = if p.1 = i ∧ p.2 ≠ i ∧ p.2 < i then q p ++ [x] else q p
  by_cases h : p.1 = i ∧ p.2 ≠ i ∧ p.2 < i + 1
  · rw [if_pos h, if_pos ⟨h.1, h.2.1, by omega⟩]
  · rw [if_neg h, if_neg (fun h' => h ⟨h'.1, h'.2.1, by omega⟩)]
theorem asks_at (i j : Nat) (x : Int) (q : WQ → List Int) (p : WQ) : asksTo i j x q p = if p.1 = i ∧ p.2 ≠ i ∧ p.2 < j then q p ++ [x] else q p := rfl
theorem asks_next {i j : Nat} (x : Int) (q : WQ → List Int) (h : j ≠ i) : asksTo i (j + 1) x q = qput (asksTo i j x q) (i, j) (asksTo i j x q (i, j) ++ [x]) := by
  funext p
  rw [asks_at, qp]
  by_cases e : p = (i, j)
  · subst e
    rw [if_pos ⟨rfl, h, Nat.lt_succ_self j⟩, if_pos rfl, asks_at, if_neg (by simp)]
  · rw [if_neg e, asks_at]
    by_cases h1 : p.1 = i ∧ p.2 ≠ i ∧ p.2 < j + 1
    · have : p.2 ≠ j := fun e2 => e (Prod.ext h1.1 e2)
      rw [if_pos h1, if_pos ⟨h1.1, h1.2.1, by omega⟩]
    · rw [if_neg h1, if_neg (fun h' => h1 ⟨h'.1, h'.2.1, by omega⟩)]
theorem asks_len {i j k : Nat} {x : Int} {q : WQ → List Int} (h : ∀ p, (q p).length ≤ k) (p : WQ) : (asksTo i j x q p).length ≤ k + 1 := by
  have := h p
  rw [asks_at]; split
  · simp; omega
  · omega
theorem leaves_at (i j w : Nat) (q : WQ → List Int) (p : WQ) : leavesTo i j w q p = if p.1 = i ∧ p.2 < j ∧ w.testBit p.2 = true then q p ++ [0] else q p := rfl
theorem leaves_zero (i w : Nat) (q : WQ → List Int) : leavesTo i 0 w q = q := by funext p; rw [leaves_at, if_neg (by omega)]
theorem leaves_no {i j w : Nat} (q : WQ → List Int) (h : w.testBit j = false) : leavesTo i (j + 1) w q = leavesTo i j w q := by
  funext p
  rw [leaves_at, leaves_at]
  by_cases h1 : p.1 = i ∧ p.2 < j + 1 ∧ w.testBit p.2 = true
  · have : p.2 ≠ j := fun e => by rw [e, h] at h1; exact absurd h1.2.2 (by simp)
    rw [if_pos h1, if_pos ⟨h1.1, by omega, h1.2.2⟩]
  · rw [if_neg h1, if_neg (fun h' => h1 ⟨h'.1, by omega, h'.2.2⟩)]
theorem leaves_yes {i j w : Nat} (q : WQ → List Int) (h : w.testBit j = true) : leavesTo i (j + 1) w q = qput (leavesTo i j w q) (i, j) (leavesTo i j w q (i, j) ++ [0]) := by
  funext p
  rw [leaves_at, qp]
  by_cases e : p = (i, j)
  · subst e
    rw [if_pos ⟨rfl, Nat.lt_succ_self j, h⟩, if_pos rfl, leaves_at, if_neg (by simp)]
  · rw [if_neg e, leaves_at]
    by_cases h1 : p.1 = i ∧ p.2 < j + 1 ∧ w.testBit p.2 = true
    · have : p.2 ≠ j := fun e2 => e (Prod.ext h1.1 e2)
      rw [if_pos h1, if_pos ⟨h1.1, by omega, h1.2.2⟩]
    · rw [if_neg h1, if_neg (fun h' => h1 ⟨h'.1, by omega, h'.2.2⟩)]
theorem leaves_len {i j w k : Nat} {q : WQ → List Int} (h : ∀ p, (q p).length ≤ k) (p : WQ) : (leavesTo i j w q p).length ≤ k + 1 := by
  have := h p
  rw [leaves_at]; split
  · simp; omega
  · omega
section
variable (g gl bm n : Nat) (R : List LRow) (w0 : World)
set_option maxRecDepth 100000 in
set_option maxHeartbeats 1000000 in
theorem want_any (i : Nat) (f : WQ → Value) (s : TS) (w : World) (hn : n ≤ 6) (hi : i < n) (hq : ShortT 900 s) (hck : 0 ≤ (s.p i).ck ∧ (s.p i).ck ≤ 1000) (h : LayT g gl bm n R w0 f s w) :
    Calls Try.prog 24 #[.pointer (some ⟨g, 0, none⟩), .int .i64 i] w fun e w' => e = .returned (.int .i64 (wantS n i s).1) ∧ ∃ f', LayT g gl bm n R w0 f' (wantS n i s).2 w' := by
  have H := Lib.hid h; clear h
  obtain ⟨r, hr⟩ : ∃ r, r = wantS n i s := ⟨_, rfl⟩
  rw [← hr]
  have HSH := Lib.hid hq; clear hq
  obtain ⟨c0, c1⟩ := tu_heads H.out
  obtain ⟨o0, o1, o2, o3, o4⟩ := tu_cells H.out hi
  cases hb : (s.p i).inn
  · rw [hb] at o2
    by_cases ha : 0 < (s.p i).ask
    · have HR := Lib.hid (hr.trans (if_pos (.inr ha)))
      clear hr hb
      go_enter Try.func24, Try.ntmps24
      go_wp2
      go_ret
      exact ⟨by rw [HR.out]; rfl, f, by rw [HR.out]; exact H.out⟩
    · have HR := Lib.hid (hr.trans (if_neg (fun hh => hh.elim (fun h => by rw [hb] at h; cases h) ha)))
      clear hr
      have f0 := H.out.lay.frz 1 rfl (by omega) (i * 5)
      have f1 := H.out.lay.frz 1 rfl (by omega) (i * 5 + 1)
      have f3 := H.out.lay.frz 1 rfl (by omega) (i * 5 + 3)
      have n01 := H.out.lay.ne_ 0 1 rfl rfl (by omega)
      obtain ⟨hc1, hc2⟩ := hck
      have H1 := Lib.hid (tu_set 0 { s.p i with ck := (s.p i).ck + 1 } (u := .int .i64 ((s.p i).ck + 1)) H.out hi (by omega) rfl (fun j hj hjk => by rcases (show j = 0 ∨ j = 1 ∨ j = 2 ∨ j = 3 ∨ j = 4 by omega) with rfl | rfl | rfl | rfl | rfl <;> first | rfl | exact absurd rfl hjk))
      have H2 := Lib.hid (tu_set 1 { s.p i with ck := (s.p i).ck + 1, ask := (s.p i).ck + 1 } (u := .int .i64 ((s.p i).ck + 1)) H1.out hi (by omega) rfl (fun j hj hjk => by
        show _ = oneV (upd s.p i _ i) j
        rw [upd_same]
        rcases (show j = 0 ∨ j = 1 ∨ j = 2 ∨ j = 3 ∨ j = 4 by omega) with rfl | rfl | rfl | rfl | rfl <;> first | rfl | exact absurd rfl hjk))
      have H3 := Lib.hid (tu_set 3 { s.p i with ck := (s.p i).ck + 1, ask := (s.p i).ck + 1, hv := 0 } (u := .int .u32 0) H2.out hi (by omega) rfl (fun j hj hjk => by
        show _ = oneV (upd (upd s.p i _) i _ i) j
        rw [upd_same]
        rcases (show j = 0 ∨ j = 1 ∨ j = 2 ∨ j = 3 ∨ j = 4 by omega) with rfl | rfl | rfl | rfl | rfl <;> first | rfl | exact absurd rfl hjk))
      have H4 : Hid (LayT g gl bm n R w0 f { s with p := upd s.p i { s.p i with ck := (s.p i).ck + 1, ask := (s.p i).ck + 1, hv := 0 }, way := asksTo i 0 ((s.p i).ck + 1) s.way } (((w.setCell ⟨gl, i * 5, none⟩ (.int .i64 ((s.p i).ck + 1))).setCell ⟨gl, i * 5 + 1, none⟩ (.int .i64 ((s.p i).ck + 1))).setCell ⟨gl, i * 5 + 3, none⟩ (.int .u32 0))) := Lib.hid (by
        rw [asks_zero]
        have := H3.out
        simp only [upd_upd] at this
        exact this)
      clear hb H1 H2 H3
      go_enter Try.func24, Try.ntmps24
      go_wp2
      clear c0 c1 o0 o1 o2 o3 o4 f0 f1 f3 n01 H
      go_loopw [46] (fun v wr => ∃ (j : Nat) (f : WQ → Value), j ≤ n ∧ v = .int .i64 j ∧ Hid (LayT g gl bm n R w0 f { s with p := upd s.p i { s.p i with ck := (s.p i).ck + 1, ask := (s.p i).ck + 1, hv := 0 }, way := asksTo i j ((s.p i).ck + 1) s.way } wr)) (fun v _ => n - (intOf v).toNat)
      case atStart => exact ⟨0, f, by omega, rfl, H4⟩
      case round =>
        clear H4
        obtain ⟨j, f, hj, rfl, H⟩ := hrel
        by_cases hlt : j < n
        · by_cases hij : j = i
          · subst hij
            go_wp2
            go_roundw
            case rel => exact ⟨j + 1, f, by omega, by go_num, by rw [asks_self]; exact H⟩
            case measure => simp [intOf]; omega
          · have e1 : ((j : Int) != (i : Int)) = true := by rw [bne_iff_ne]; omega
            have hHN := asks_next ((s.p i).ck + 1) s.way hij
            have q1 : wr.cell? ⟨gl, i * 5 + 1, none⟩ = some (.int .i64 ((s.p i).ck + 1)) := by
              have := (tu_cells H.out hi).2.1
              simp only [upd_same] at this
              exact this
            go_wp2_with fail
            refine (send_any g gl bm n R w0 i j ((s.p i).ck + 1) f _ wr hn hi hlt (fun p => by have := asks_len (i := i) (j := j) (x := (s.p i).ck + 1) HSH.out p; show (asksTo i j _ s.way p).length ≤ 1000; omega) H.out).mono ?_
            rintro e w3 ⟨rfl, f3, h3⟩
            have H3 := Lib.hid h3
            clear h3 q1
            go_wp2
            go_roundw
            case rel => exact ⟨j + 1, f3, by omega, by go_num, by rw [hHN]; exact H3⟩
            case measure => simp [intOf]; omega
        · obtain rfl : j = n := by omega
          go_wp2_with fail
          refine (enter_any g gl bm j R w0 i f _ wr hn hi (by show (upd s.p i _ i).hv < _; rw [upd_same]; exact Nat.pow_pos (by omega)) H.out).mono ?_
          rintro e w3 ⟨rfl, h3⟩
          have H3 := Lib.hid h3
          clear h3
          go_wp2
          go_ret
          exact ⟨by rw [HR.out]; rfl, f, by rw [HR.out]; exact H3.out⟩
  · rw [hb] at o2
    have HR := Lib.hid (hr.trans (if_pos (.inl hb)))
    clear hr hb
    go_enter Try.func24, Try.ntmps24
    go_wp2
    go_ret
    exact ⟨by rw [HR.out]; rfl, f, by rw [HR.out]; exact H.out⟩
set_option maxRecDepth 100000 in
set_option maxHeartbeats 1000000 in
theorem out_any (i : Nat) (f : WQ → Value) (s : TS) (w : World) (hn : n ≤ 6) (hi : i < n) (hq : ShortT 900 s) (hwt : (s.p i).wt < 2 ^ n) (h : LayT g gl bm n R w0 f s w) :
    Calls Try.prog 26 #[.pointer (some ⟨g, 0, none⟩), .int .i64 i] w fun e w' => e = .returned (.int .i64 (outS n i s).1) ∧ ∃ f', LayT g gl bm n R w0 f' (outS n i s).2 w' := by
  have H := Lib.hid h; clear h
  obtain ⟨r, hr⟩ : ∃ r, r = outS n i s := ⟨_, rfl⟩
  rw [← hr]
  have HSH := Lib.hid hq; clear hq
  obtain ⟨c0, c1⟩ := tu_heads H.out
  obtain ⟨o0, o1, o2, o3, o4⟩ := tu_cells H.out hi
  have h32 : (s.p i).wt < 4294967296 := Nat.lt_of_lt_of_le hwt (Nat.le_trans (Nat.pow_le_pow_right (by omega) (show n ≤ 32 by omega)) (by decide))
  cases hb : (s.p i).inn
  · rw [hb] at o2
    have HR := Lib.hid (hr.trans (if_pos hb))
    clear hr hb
    go_enter Try.func26, Try.ntmps26
    go_wp2
    go_ret
    exact ⟨by rw [HR.out]; rfl, f, by rw [HR.out]; exact H.out⟩
  · rw [hb] at o2
    have HR := Lib.hid (hr.trans (if_neg (by rw [hb]; simp)))
    clear hr
    have f2 := H.out.lay.frz 1 rfl (by omega) (i * 5 + 2)
    have n01 := H.out.lay.ne_ 0 1 rfl rfl (by omega)
    have H1 : Hid (LayT g gl bm n R w0 f { s with p := upd s.p i { s.p i with inn := false }, way := leavesTo i 0 (s.p i).wt s.way } (w.setCell ⟨gl, i * 5 + 2, none⟩ (.bool false))) := Lib.hid (by
      rw [leaves_zero]
      exact tu_set 2 { s.p i with inn := false } (u := .bool false) H.out hi (by omega) rfl (fun j hj hjk => by rcases (show j = 0 ∨ j = 1 ∨ j = 2 ∨ j = 3 ∨ j = 4 by omega) with rfl | rfl | rfl | rfl | rfl <;> first | rfl | exact absurd rfl hjk))
    clear hb
    go_enter Try.func26, Try.ntmps26
    go_wp2
    clear c0 c1 o0 o1 o2 o3 o4 f2 n01 H
    go_loopw [26] (fun v wr => ∃ (j : Nat) (f : WQ → Value), j ≤ n ∧ v = .int .i64 j ∧ Hid (LayT g gl bm n R w0 f { s with p := upd s.p i { s.p i with inn := false }, way := leavesTo i j (s.p i).wt s.way } wr)) (fun v _ => n - (intOf v).toNat)
    case atStart => exact ⟨0, f, by omega, rfl, H1⟩
    case round =>
      clear H1
      obtain ⟨j, f, hj, rfl, H⟩ := hrel
      have q4 : wr.cell? ⟨gl, i * 5 + 4, none⟩ = some (.int .u32 ((s.p i).wt : Nat)) := by
        have := (tu_cells H.out hi).2.2.2.2
        simp only [upd_same] at this
        exact this
      by_cases hlt : j < n
      · have hbt := bit_at (P := (s.p i).wt) (i := j) h32
        cases hb : (s.p i).wt.testBit j
        · rw [hb] at hbt
          have hHN := leaves_no (i := i) s.way hb
          clear hb
          go_wp2
          go_roundw
          case rel => exact ⟨j + 1, f, by omega, by go_num, by rw [hHN]; exact H⟩
          case measure => simp [intOf]; omega
        · rw [hb] at hbt
          have hHN := leaves_yes (i := i) s.way hb
          clear hb
          go_wp2_with fail
          refine (send_any g gl bm n R w0 i j 0 f _ wr hn hi hlt (fun p => by have := leaves_len (i := i) (j := j) (w := (s.p i).wt) HSH.out p; show (leavesTo i j _ s.way p).length ≤ 1000; omega) H.out).mono ?_
          rintro e w3 ⟨rfl, f3, h3⟩
          have H3 := Lib.hid h3
          clear h3 q4
          go_wp2
          go_roundw
          case rel => exact ⟨j + 1, f3, by omega, by go_num, by rw [hHN]; exact H3⟩
          case measure => simp [intOf]; omega
      · obtain rfl : j = n := by omega
        have f4 := H.out.lay.frz 1 rfl (by omega) (i * 5 + 4)
        have H4 := Lib.hid (tu_set 4 { s.p i with inn := false, wt := 0 } (u := .int .u32 0) H.out hi (by omega) rfl (fun k hj hjk => by
          show _ = oneV (upd s.p i _ i) k
          rw [upd_same]
          rcases (show k = 0 ∨ k = 1 ∨ k = 2 ∨ k = 3 ∨ k = 4 by omega) with rfl | rfl | rfl | rfl | rfl <;> first | rfl | exact absurd rfl hjk))
        go_wp2
        go_ret
        exact ⟨by rw [HR.out]; rfl, f, by
          rw [HR.out]
          have := H4.out
          simp only [upd_upd] at this
          exact this⟩
end
end Go.Proofs.Ytihkbkbbllmliaa
