/- The law CopiesMost, walked. -/
import Derived.Test.YtoakgoigamigjaaCopiesRise
import Derived.Test.YtoakgoigamigjaaCoMost
set_option linter.unusedVariables false
set_option linter.unusedSimpArgs false
namespace Go.Proofs.Ytoakgoigamigjaa
open Go.RowKit

abbrev Z0 : Mv := ⟨fun _ => 0, fun _ => 0, fun _ => 0, fun _ => 0⟩
abbrev mvs (A : Option Addr) (q cap : Nat) (M : Mv) : LRow := ⟨A, 34, 4, q, cap, mvF M⟩
abbrev opsR (A : Option Addr) (cap : Nat) (l : List Opr) : LRow := ⟨A, 36, 5, l.length, cap, opG l⟩
/-- What a law reads of what Play gave. -/
abbrev rowsM (b : Nat) (C O T V : Value) (AO : Option Addr) (cO : Nat) (l : List Opr) (AS : Option Addr) (n cS : Nat) (S : Nat → Nat) : List LRow := [blkC b [C, O, T, V], opsR AO cO l, lstI AS n cS (fun i => .int .i64 (S i : Nat))]
theorem co_op {w0 w : World} {L : List LRow} (k : Nat) {g cap : Nat} {l : List Opr} (h : Lay w0 w L) (hk : L[k]? = some (opsR (some ⟨g, 0, none⟩) cap l)) {q : Nat} (hq : q < l.length) {o : Opr} (ho : opAt l q = o) :
    w.cell? ⟨g, q * 5, none⟩ = some (.int .i64 (o.fr : Nat)) ∧ w.cell? ⟨g, q * 5 + 1, none⟩ = some (.int .i64 (o.bg : Nat)) ∧ w.cell? ⟨g, q * 5 + 2, none⟩ = some (.int .i64 (o.en : Nat)) ∧ w.cell? ⟨g, q * 5 + 3, none⟩ = some (.bool o.wr) ∧ w.cell? ⟨g, q * 5 + 4, none⟩ = some (.int .i64 o.vl) := by
  subst ho
  have d : ∀ i, i < 5 → (q * 5 + i) / 5 = q ∧ (q * 5 + i) % 5 = i := fun i hi => by omega
  have h0 := h.cell k hk (j := q * 5 + 0) (by omega)
  have h1 := h.cell k hk (j := q * 5 + 1) (by omega)
  have h2 := h.cell k hk (j := q * 5 + 2) (by omega)
  have h3 := h.cell k hk (j := q * 5 + 3) (by omega)
  have h4 := h.cell k hk (j := q * 5 + 4) (by omega)
  simp only [opG, (d 0 (by omega)).1, (d 0 (by omega)).2, (d 1 (by omega)).1, (d 1 (by omega)).2, (d 2 (by omega)).1, (d 2 (by omega)).2, (d 3 (by omega)).1, (d 3 (by omega)).2, (d 4 (by omega)).1, (d 4 (by omega)).2, if_true] at h0 h1 h2 h3 h4
  exact ⟨h0, h1, h2, h3, h4⟩
theorem noop_at {L : Nat} {l : List Opr} (h : NoOp L l) {j : Nat} (hj : j < l.length) : (opAt l j).bg ≠ L := by
  have : opAt l j = l[j] := by simp [opAt, List.getD_eq_getElem?_getD, List.getElem?_eq_getElem hj]
  rw [this]; exact h _ (List.getElem_mem hj)

set_option maxRecDepth 100000 in
set_option maxHeartbeats 6400000 in
theorem copiesMost_go (n : Int) (v m cap : Nat) (A : Option Addr) (M : Mv) (w : World) (hr : Rd w w.heap.size A (m * 4) (mvF M)) (hv : v < 256) (hm : m ≤ 40) :
    Calls Try.prog 4 #[.int .i64 n, .slice A m cap, .int .u8 v] w fun e w' => e = .returned (.bool true) ∧ Below w.heap.size w w' := by
  have HR := Lib.hid hr; clear hr
  go_enter Try.func4, Try.ntmps4
  go_wp2_with (first
    | (at_builtin; refine wpList_apMvs rfl (.tmp 21) (.tmp 22) rfl w.heap.size rfl (Own.empty _ _ _ _ (mvF Z0) _ (by simp) (by simp)) rfl (HR.out.alloc (Nat.le_refl _) _) m (Nat.zero_add m) (by unfold maxLen; omega) (by omega) (by simp) ?_; intro A3 c3 w3 ho3 hg3 ha3
       have HL3 : Hid (Lay w w3 [mvs A3 m c3 (Z0.app 0 M)]) := (((Lay.nil w).new #[] 34 4 0 (mvF Z0) _ rfl rfl (by unfold maxLen; omega) (fun j hj => absurd hj (by omega))).app 0 rfl ho3 hg3 ha3)
       clear ho3 hg3 ha3)
    | (at_builtin; refine wpList_apMv rfl (.tmp 24) (.tmp 28) rfl w.heap.size rfl w3.heap.size _ _ _ _ rfl rfl (HL3.out.own 0 _ rfl) rfl (by omega) HL3.out.size ?_; intro A4 c4 w4 ho4 hg4 ha4
       have HL4 := Lib.hid ((HL3.out.alloc _).app 0 rfl ho4 hg4 ha4)
       clear ho4 hg4 ha4)
    | fail)
  have HG4 : Hid (MP n.toNat m v (coE n.toNat ((Z0.app 0 M).push m 1 5 0 v) (m + 1))) := by
    show MP _ _ _ _
    rw [coE_push]
    exact mp_open (EB.all _ _ m) (by omega)
  go_loopw [7, 8] (fun l i wr => ∃ (r q : Nat) (A' : Option Addr) (cap' : Nat) (M' : Mv), r ≤ 2 ∧ q ≤ m + 1 + r * 6 ∧ i = .int .i64 (r : Nat) ∧ l = .slice A' q cap' ∧ Hid (Lay w wr [mvs A' q cap' M']) ∧ Hid (MP n.toNat m v (coE n.toNat M' q))) (fun _ i _ => 2 - (intOf i).toNat)
  case atStart => exact ⟨0, m + 1, A4, c4, _, by omega, by omega, rfl, rfl, HL4, HG4⟩
  case round =>
    clear HL3 HL4 HG4
    obtain ⟨r, q, A1, cap1, M1, hr2, hq, rfl, rfl, HL, HG⟩ := hrel
    have hz := HL.out.size
    by_cases hrN : r < 2
    · go_wp2
      go_loopw [7, 9] (fun l i wr => ∃ (j q2 : Nat) (A' : Option Addr) (cap' : Nat) (M' : Mv), j ≤ 6 ∧ q2 ≤ q + j ∧ i = .int .i64 (j : Nat) ∧ l = .slice A' q2 cap' ∧ Hid (Lay w wr [mvs A' q2 cap' M']) ∧ Hid (MP n.toNat m v (coE n.toNat M' q2))) (fun _ i _ => 6 - (intOf i).toNat)
      case atStart => exact ⟨0, q, A1, cap1, _, by omega, by omega, rfl, rfl, HL, HG⟩
      case round =>
        clear HL HG hz
        obtain ⟨j, q2, A1, cap1, M1, hj, hq2, rfl, rfl, HL, HG⟩ := hrel
        have hz := HL.out.size
        by_cases hjn : (j : Int) < n
        · by_cases hj6 : j < 6
          · go_wp2_with (at_builtin; refine wpList_apMv rfl (.tmp 43) (.tmp 46) rfl w.heap.size rfl wr.heap.size _ _ _ _ rfl rfl (HL.out.own 0 _ rfl) rfl (by omega) HL.out.size ?_; intro A2 c2 w2 ho2 hg2 ha2
                         have HL2 := Lib.hid ((HL.out.alloc _).app 0 rfl ho2 hg2 ha2)
                         clear ho2 hg2 ha2)
            have HG2 : Hid (MP n.toNat m v (coE n.toNat (M1.push q2 2 5 j 0) (q2 + 1))) := by
              show MP _ _ _ _
              rw [coE_push]
              exact mp_reach hj6 HG.out
            go_roundw
            case rel =>
              exact ⟨j + 1, by omega, q2 + 1, by omega, by omega, A2, c2, ⟨rfl, rfl, rfl⟩, _, HL2, HG2⟩
            case measure => simp [intOf]; omega
          · go_wp2
            go_roundw
            case rel => exact ⟨r + 1, q2, A1, cap1, M1, by omega, by omega, by go_num, rfl, HL, HG⟩
            case measure => simp [intOf]; omega
        · go_wp2
          go_roundw
          case rel => exact ⟨r + 1, q2, A1, cap1, M1, by omega, by omega, by go_num, rfl, HL, HG⟩
          case measure => simp [intOf]; omega
    · obtain rfl : r = 2 := by omega
      cases hb : playedB n q
      · have HB := Lib.hid hb; clear hb
        go_wp2_with fail
        refine (co_bad' n q cap1 A1 wr (by unfold maxLen; omega) HB.out).mono ?_
        rintro e w1 ⟨rfl, hb1⟩
        have HB1 := Lib.hid (HL.out.bel.trans (hb1.mono HL.out.size)); clear hb1
        go_wp2_with (go_at_call 8; refine (bool_is (played_any n q _) HB.out).mono ?_; rintro e w3 ⟨rfl, rfl⟩)
        go_ret
        exact ⟨rfl, HB1.out.alloc HB1.out.size _⟩
      · have HB := Lib.hid hb
        obtain ⟨h1, h2, h3⟩ := playedB_iff.1 hb
        clear hb
        obtain ⟨n, rfl⟩ := Int.eq_ofNat_of_zero_le (show 0 ≤ n by omega)
        rw [Int.toNat_natCast] at HG
        go_wp2_with fail
        refine (co_good n q cap1 _ A1 M1 wr (by omega) (by omega) (by omega) (Nat.le_refl _) (HL.out.own 0 _ rfl).rd).mono ?_
        rintro e w4 ⟨v4, rfl, g, gl, b, AO, cO, AC, cC, AS, cS, AV, cV, rfl, hL4⟩
        have HL4 := Lib.hid (HL.out.join hL4)
        clear hL4
        go_upto_region 13 with (fail)
        have hL5 := (HL4.out.newB [.slice AC q cC, .slice AO (coE n M1 q).ops.length cO, .slice AS n cS, .slice AV n cV] 27 4 rfl _ rfl).perm (L' := rowsM w4.heap.size (.slice AC q cC) (.slice AO (coE n M1 q).ops.length cO) (.slice AS n cS) (.slice AV n cV) AO cO (coE n M1 q).ops AS n cS (coE n M1 q).S) [0, 3, 5] (by decide) rfl
        have HE := Lib.hid (mp_end HG.out)
        clear HL4 HG HL hz
        refine at_lay (F := fun W' => Code.wp _ _ _ _ W') hL5 ?_
        clear hL5
        intro W hW
        have HW := Lib.hid hW
        clear hW
        generalize w4.heap.size = bb at HW ⊢
        obtain ⟨l, hl⟩ : ∃ l, (coE n M1 q).ops = l := ⟨_, rfl⟩
        obtain ⟨S, hS⟩ : ∃ S, (coE n M1 q).S = S := ⟨_, rfl⟩
        rw [hl, hS] at HW HE
        rw [hl]
        clear hl hS
        obtain ⟨gS, rfl, -⟩ := (HW.out.own 2 _ rfl).pos1 (by show 0 < n; omega)
        have hlc := (HW.out.own 1 _ rfl).le
        have hl1 : l.length ≤ cO := hlc.1
        have hl2 : cO ≤ 9223372036854775807 := by have := hlc.2; unfold maxLen at this; exact this
        clear hlc
        have c0 := HW.out.cellB 0 rfl 0 (by omega)
        have c1 := HW.out.cellB 0 rfl 1 (by omega)
        have c2 := HW.out.cellB 0 rfl 2 (by omega)
        simp only [ofL_0, ofL_1, ofL_2] at c0 c1 c2
        go_upto_region 18 with (first | (go_at_call 8; refine (bool_is (played_any n q _) HB.out).mono ?_; rintro e w3 ⟨rfl, rfl⟩) | fail)
        rcases HE.out with hN | hD
        · have HN := Lib.hid hN
          clear hN HE
          go_wp2
          go_loopw [12, 81] (fun z i wr => ∃ (j : Nat), j ≤ l.length ∧ i = .int .i64 (j : Nat) ∧ z = .int .i64 (-1) ∧ Hid (Lay w wr (rowsM bb (.slice AC q cC) (.slice AO l.length cO) (.slice (some ⟨gS, 0, none⟩) n cS) (.slice AV n cV) AO cO l (some ⟨gS, 0, none⟩) n cS S))) (fun _ i _ => l.length - (intOf i).toNat)
          case atStart => exact ⟨0, by omega, rfl, rfl, HW⟩
          case round =>
            clear HW c0 c1 c2
            obtain ⟨j, hj, rfl, rfl, HW⟩ := hrel
            by_cases hjl : j < l.length
            · obtain ⟨gO, rfl, -⟩ := (HW.out.own 1 _ rfl).pos (by show 0 < l.length; omega)
              obtain ⟨o, ho⟩ : ∃ o, opAt l j = o := ⟨_, rfl⟩
              obtain ⟨o0, o1, o2, o3, o4⟩ := co_op 1 HW.out rfl hjl ho
              have hbg := noop_at HN.out hjl
              rw [ho] at hbg
              clear ho
              have e1 : ((o.bg : Int) == (m : Int)) = false := by rw [beq_eq_false_iff_ne]; omega
              have e2 : (o.bg == m) = false := by rw [beq_eq_false_iff_ne]; omega
              have hgO := (HW.out.at_ 1 rfl).2
              generalize o.bg = x1 at *
              generalize o.fr = x0 at *
              generalize o.en = x2 at *
              generalize o.wr = x3 at *
              generalize o.vl = x4 at *
              by_cases h5 : x0 = 5
              · subst h5
                go_wp2
                go_roundw
                case rel => exact ⟨j + 1, by omega, by go_num, rfl, HW.out.alloc _⟩
                case measure => simp [intOf]; omega
              · have e3 : ((x0 : Int) == 5) = false := by rw [beq_eq_false_iff_ne]; omega
                have e4 : (x0 == 5) = false := by rw [beq_eq_false_iff_ne]; omega
                go_wp2
                go_roundw
                case rel => exact ⟨j + 1, by omega, by go_num, rfl, HW.out.alloc _⟩
                case measure => simp [intOf]; omega
            · go_wp2
              go_ret
              exact ⟨rfl, HW.out.bel⟩
        · obtain ⟨l0, en, hle, hN, hct⟩ := done_cnt (by omega) hD
          have HN := Lib.hid hN
          clear hN HE hD
          have hlen : l.length = l0.length + 1 := by rw [hle]; simp
          have HAT : Hid (∀ j, j < l0.length → (opAt l j).bg ≠ m) := by
            show ∀ j, j < l0.length → (opAt l j).bg ≠ m
            intro j hj
            rw [hle, opAt_old _ _ hj]
            exact noop_at HN.out hj
          have HLA : Hid (opAt l l0.length = ⟨5, m, en, true, v⟩) := by
            show opAt l l0.length = _
            rw [hle]; exact opAt_new ..
          clear hle HN
          generalize l0.length = k at *
          have HCT := Lib.hid hct
          have hcl := cntS_le S n
          clear hct
          go_wp2
          go_loopw [12, 81] (fun z i wr => ∃ (j : Nat), j ≤ l.length ∧ i = .int .i64 (j : Nat) ∧ z = .int .i64 (if j = l.length then (k : Int) else -1) ∧ Hid (Lay w wr (rowsM bb (.slice AC q cC) (.slice AO l.length cO) (.slice (some ⟨gS, 0, none⟩) n cS) (.slice AV n cV) AO cO l (some ⟨gS, 0, none⟩) n cS S))) (fun _ i _ => l.length - (intOf i).toNat)
          case atStart => exact ⟨0, by omega, rfl, by rw [if_neg (by omega)], HW⟩
          case round =>
            clear HW c0 c1 c2
            obtain ⟨j, hj, rfl, rfl, HW⟩ := hrel
            obtain ⟨gO, rfl, -⟩ := (HW.out.own 1 _ rfl).pos (by show 0 < l.length; omega)
            have hgO := (HW.out.at_ 1 rfl).2
            by_cases hjl : j < l.length
            · rw [if_neg (by omega)]
              by_cases hjk : j < k
              · obtain ⟨o, ho⟩ : ∃ o, opAt l j = o := ⟨_, rfl⟩
                obtain ⟨o0, o1, o2, o3, o4⟩ := co_op 1 HW.out rfl hjl ho
                have hbg := HAT.out j hjk
                rw [ho] at hbg
                clear ho
                have e1 : ((o.bg : Int) == (m : Int)) = false := by rw [beq_eq_false_iff_ne]; omega
                have e2 : (o.bg == m) = false := by rw [beq_eq_false_iff_ne]; omega
                generalize o.bg = x1 at *
                generalize o.fr = x0 at *
                generalize o.en = x2 at *
                generalize o.wr = x3 at *
                generalize o.vl = x4 at *
                have hnl : ¬ (j + 1 = l.length) := by omega
                by_cases h5 : x0 = 5
                · subst h5
                  go_wp2
                  go_roundw
                  case rel => exact ⟨j + 1, by omega, by go_num, by rw [if_neg hnl], HW.out.alloc _⟩
                  case measure => simp [intOf]; omega
                · have e3 : ((x0 : Int) == 5) = false := by rw [beq_eq_false_iff_ne]; omega
                  have e4 : (x0 == 5) = false := by rw [beq_eq_false_iff_ne]; omega
                  go_wp2
                  go_roundw
                  case rel => exact ⟨j + 1, by omega, by go_num, by rw [if_neg hnl], HW.out.alloc _⟩
                  case measure => simp [intOf]; omega
              · obtain rfl : j = k := by omega
                obtain ⟨o0, o1, o2, o3, o4⟩ := co_op 1 HW.out rfl hjl HLA.out
                simp only [Int.cast_ofNat_Int] at o0
                go_wp2
                go_roundw
                case rel => exact ⟨j + 1, by omega, by go_num, by rw [if_pos hlen.symm], HW.out.alloc _⟩
                case measure => simp [intOf]; omega
            · obtain rfl : j = l.length := by omega
              rw [if_pos rfl]
              obtain ⟨o0, o1, o2, o3, o4⟩ := co_op 1 HW.out rfl (show k < l.length by omega) HLA.out
              simp only [Int.cast_ofNat_Int] at o0
              have c1 := HW.out.cellB 0 rfl 1 (by omega)
              simp only [ofL_1] at c1
              go_upto_region 27 with (fail)
              have hL5 := HW.out.newB [.int .i64 5, .int .i64 (m : Nat), .int .i64 (en : Nat), .bool true, .int .i64 (v : Nat)] 36 5 rfl _ rfl
              clear o0 o1 o2 o3 o4 c1
              refine at_lay (F := fun W' => Code.wp _ _ _ _ W') hL5 ?_
              clear hL5 HW
              intro W5 hW
              have HW := Lib.hid hW
              clear hW
              generalize wr.heap.size = bo at HW ⊢
              go_wp2
              go_loopw [16, 17] (fun z i wr => ∃ (j : Nat), j ≤ n ∧ i = .int .i64 (j : Nat) ∧ z = .int .i64 (cntS S j : Nat) ∧ Hid (Sim W5 wr)) (fun _ i _ => n - (intOf i).toNat)
              case atStart => exact ⟨0, by omega, rfl, rfl, Lib.hid ⟨rfl, rfl, rfl, rfl⟩⟩
              case round =>
                obtain ⟨j, hj, rfl, rfl, HS⟩ := hrel
                have HV := Lib.hid (HW.out.sim HS.out)
                by_cases hjn : j < n
                · have c2 := HV.out.cellB 1 rfl 2 (by omega)
                  simp only [ofL_2] at c2
                  have r1 := HV.out.cell1 3 rfl (j := j) hjn
                  have hcj := cntS_le S j
                  have hsx : cntS S (j + 1) = cntS S j + if 0 < S j then 1 else 0 := rfl
                  generalize S j = x at r1 hsx
                  by_cases hx : 0 < x
                  · rw [if_pos hx] at hsx
                    go_wp2
                    go_roundw
                    case rel => exact ⟨j + 1, by omega, by go_num, by rw [hsx]; rfl, HS⟩
                    case measure => simp [intOf]; omega
                  · rw [if_neg hx] at hsx
                    go_wp2
                    go_roundw
                    case rel => exact ⟨j + 1, by omega, by go_num, by rw [hsx]; rfl, HS⟩
                    case measure => simp [intOf]; omega
                · obtain rfl : j = n := by omega
                  have hct := HCT.out
                  have c1 := HV.out.cellB 1 rfl 1 (by omega)
                  have d3 := HV.out.cellB 0 rfl 3 (by omega)
                  have d4 := HV.out.cellB 0 rfl 4 (by omega)
                  simp only [ofL_1, ofL_3, ofL_4] at c1 d3 d4
                  generalize cntS S j = ct at *
                  have e9 : ((k : Int) == (l.length : Int) - 1) = true := by rw [beq_iff_eq]; omega
                  go_wp2
                  go_ret
                  exact ⟨ret_bool (by simp; first | done | omega), HV.out.bel⟩
theorem copiesMost_all (n : Int) (A : Option Addr) (m cap : Nat) (M : Mv) (v : Int) (w : World) (_ : (Lit.int .i64 n).wf = true) (hmc : m ≤ cap ∧ cap ≤ maxLen) (hr : Rd w w.heap.size A (m * 4) (mvF M)) (hk : (Lit.int .u8 v).wf = true) :
    Calls Try.prog 4 #[.int .i64 n, .slice A m cap, .int .u8 v] w fun e w' => e = .returned (.bool true) ∧ Below w.heap.size w w' := by
  obtain ⟨v, rfl, hv⟩ := u8_nat hk
  by_cases h : m ≤ 40
  · exact copiesMost_go n v m cap A M w hr hv h
  · have hm2 : m ≤ 9223372036854775807 := by have := hmc.2; unfold maxLen at this; omega
    go_enter Try.func4, Try.ntmps4
    go_wp2
    go_ret
    exact ⟨rfl, Below.refl _ _⟩
end Go.Proofs.Ytoakgoigamigjaa
