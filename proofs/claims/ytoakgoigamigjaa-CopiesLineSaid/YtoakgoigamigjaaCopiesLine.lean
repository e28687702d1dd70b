/- The law CopiesLine, walked. -/
import Derived.Test.YtoakgoigamigjaaCoLnOp
set_option linter.unusedVariables false
set_option linter.unusedSimpArgs false
namespace Go.Proofs.Ytoakgoigamigjaa
open Go.RowKit

/-- What the law reads of what Play gave, and its own list. -/
abbrev rowsL (b : Nat) (C O T V : Value) (AO : Option Addr) (cO : Nat) (l : List Opr) (AC : Option Addr) (m cC : Nat) (fc : Nat → Int) (A' : Option Addr) (c' : Nat) (l' : List Opr) : List LRow := [blkC b [C, O, T, V], opsR AO cO l, lstC AC m cC fc, opsR A' c' l']

/-- Was the operation that began at the i'th move done? -/
def hasD (O : List Opr) (f : Int) (i : Nat) : Nat → Bool
  | 0 => false
  | q + 1 => hasD O f i q || (((opAt O q).fr : Int) == f && (opAt O q).bg == i)
/-- Did one read the number? -/
def hasS (O : List Opr) (v : Int) : Nat → Bool
  | 0 => false
  | q + 1 => hasS O v q || (!(opAt O q).wr && (opAt O q).vl == v)
theorem opAt_mem {O : List Opr} {o : Opr} (h : o ∈ O) : ∃ q, q < O.length ∧ opAt O q = o := by
  obtain ⟨q, hq, he⟩ := List.mem_iff_getElem.1 h
  exact ⟨q, hq, by rw [← he]; simp [opAt, List.getD_eq_getElem?_getD, List.getElem?_eq_getElem hq]⟩
theorem opAt_in {O : List Opr} {q : Nat} (hq : q < O.length) : opAt O q ∈ O := by
  have : opAt O q = O[q] := by simp [opAt, List.getD_eq_getElem?_getD, List.getElem?_eq_getElem hq]
  rw [this]; exact List.getElem_mem hq
theorem hasD_no {O : List Opr} {f : Int} {i : Nat} : ∀ {q : Nat}, hasD O f i q = false → ∀ p, p < q → ¬ (((opAt O p).fr : Int) = f ∧ (opAt O p).bg = i)
  | 0, _, p, hp => by omega
  | q + 1, h, p, hp => by
    simp only [hasD, Bool.or_eq_false_iff] at h
    rcases Nat.lt_or_ge p q with hl | hl
    · exact hasD_no h.1 p hl
    · obtain rfl : p = q := by omega
      intro hc
      have := h.2
      simp [hc.1, hc.2] at this
theorem hasD_yes {O : List Opr} {f : Int} {i : Nat} : ∀ {q : Nat}, hasD O f i q = true → ∃ p, p < q ∧ ((opAt O p).fr : Int) = f ∧ (opAt O p).bg = i
  | 0, h => by simp [hasD] at h
  | q + 1, h => by
    simp only [hasD, Bool.or_eq_true] at h
    rcases h with h | h
    · obtain ⟨p, hp, hr⟩ := hasD_yes h
      exact ⟨p, by omega, hr⟩
    · simp only [Bool.and_eq_true, beq_iff_eq] at h
      exact ⟨q, by omega, h⟩
theorem hasS_no {O : List Opr} {v : Int} : ∀ {q : Nat}, hasS O v q = false → ∀ p, p < q → ¬ ((opAt O p).wr = false ∧ (opAt O p).vl = v)
  | 0, _, p, hp => by omega
  | q + 1, h, p, hp => by
    simp only [hasS, Bool.or_eq_false_iff] at h
    rcases Nat.lt_or_ge p q with hl | hl
    · exact hasS_no h.1 p hl
    · obtain rfl : p = q := by omega
      intro hc
      have := h.2
      simp [hc.1, hc.2] at this
theorem hasD_all {O : List Opr} {f : Int} {i : Nat} (h : hasD O f i O.length = false) : ∀ o ∈ O, ¬ ((o.fr : Int) = f ∧ o.bg = i) := by
  intro o ho
  obtain ⟨q, hq, rfl⟩ := opAt_mem ho
  exact hasD_no h q hq
theorem hasD_any {O : List Opr} {f : Int} {i : Nat} (h : hasD O f i O.length = true) : ¬ ∀ o ∈ O, ¬ ((o.fr : Int) = f ∧ o.bg = i) := by
  intro hn
  obtain ⟨p, hp, hr⟩ := hasD_yes h
  exact hn _ (opAt_in hp) hr
theorem hasS_all {O : List Opr} {v : Int} (h : hasS O v O.length = false) : ¬ ∃ o ∈ O, o.wr = false ∧ o.vl = v := by
  rintro ⟨o, ho, hr⟩
  obtain ⟨q, hq, rfl⟩ := opAt_mem ho
  exact hasS_no h q hq hr
theorem coC_from {n : Nat} {M : Mv} {j : Nat} (h1 : M.k j = 1) (h2 : coC n M j = 0) : 0 ≤ M.f j := by
  by_cases hf : 0 ≤ M.f j
  · exact hf
  · exfalso
    have hc : clientB (M.f j) = false := by simp [clientB, hf]
    unfold coC doS at h2
    rw [h1, if_neg (by decide), if_pos (Or.inl ⟨by decide, hc⟩)] at h2
    exact absurd (show (2 : Int) = 0 from h2) (by decide)

set_option maxRecDepth 100000 in
set_option maxHeartbeats 6400000 in
theorem copiesLine_go (n : Int) (m cap : Nat) (A : Option Addr) (M : Mv) (w : World) (hr : Rd w w.heap.size A (m * 4) (mvF M)) (hm : m ≤ maxLen) :
    Calls Try.prog 6 #[.int .i64 n, .slice A m cap] w fun e w' => e = .returned (.bool true) ∧ Below w.heap.size w w' := by
  have HR := Lib.hid hr; clear hr
  cases hb : playedB n m
  · have HB := Lib.hid hb; clear hb
    go_enter Try.func6, Try.ntmps6
    go_wp2_with fail
    refine (co_bad' n m cap A w hm HB.out).mono ?_
    rintro e w1 ⟨rfl, hb1⟩
    have HB1 := Lib.hid hb1; clear hb1
    unfold maxLen at hm
    go_wp2_with (go_at_call 8; refine (bool_is (played_any n m _) HB.out).mono ?_; rintro e w3 ⟨rfl, rfl⟩)
    go_ret
    exact ⟨rfl, HB1.out.alloc HB1.out.size _⟩
  have HB := Lib.hid hb
  obtain ⟨h1, h2, h3⟩ := playedB_iff.1 hb
  clear hb
  obtain ⟨n, rfl⟩ := Int.eq_ofNat_of_zero_le (show 0 ≤ n by omega)
  go_enter Try.func6, Try.ntmps6
  go_wp2_with fail
  refine (co_good n m cap _ A M w (by omega) (by omega) (by omega) (Nat.le_refl _) HR.out).mono ?_
  rintro e w4 ⟨v4, rfl, g, gl, b, AO, cO, AC, cC, AS, cS, AV, cV, rfl, hL4⟩
  have HL4 := Lib.hid hL4
  clear hL4
  go_upto_region 2 with (fail)
  have hL5 := (HL4.out.newB [.slice AC m cC, .slice AO (coE n M m).ops.length cO, .slice AS n cS, .slice AV n cV] 27 4 rfl _ rfl).perm (L' := [blkC w4.heap.size [.slice AC m cC, .slice AO (coE n M m).ops.length cO, .slice AS n cS, .slice AV n cV], opsR AO cO (coE n M m).ops, lstC AC m cC (coC n M)]) [0, 3, 4] (by decide) rfl
  clear HL4
  refine at_lay (F := fun W' => Code.wp _ _ _ _ W') hL5 ?_
  clear hL5
  intro W hW
  have HW := Lib.hid hW
  clear hW
  generalize w4.heap.size = bb at HW ⊢
  have c0 := HW.out.cellB 0 rfl 0 (by omega)
  have c1 := HW.out.cellB 0 rfl 1 (by omega)
  have c2 := HW.out.cellB 0 rfl 2 (by omega)
  have c3 := HW.out.cellB 0 rfl 3 (by omega)
  simp only [ofL_0, ofL_1, ofL_2, ofL_3] at c0 c1 c2 c3
  go_upto_region 6 with (first | (go_at_call 8; refine (bool_is (played_any n m _) HB.out).mono ?_; rintro e w3 ⟨rfl, rfl⟩) | fail)
  have hops := (WB.all n M m).ops
  have HI := (HW.out.own 1 _ rfl).rd
  have hbb := (HW.out.at_ 0 rfl).2
  go_wp2_with (first
    | (at_builtin; refine wpList_apOps rfl (.tmp 55) (.tmp 57) rfl w.heap.size (l := []) rfl rfl (Own.empty _ _ _ _ (opG []) _ rfl HW.out.size) rfl (HI.alloc (by first | exact HW.out.size | simp) _) (coE n M m).ops.length (Nat.zero_add _) (by omega) (by simp; have := HW.out.size; omega) ?_; intro A3 c3' w3 ho3 hg3 ha3
       have HL3 := Lib.hid (((HW.out.new #[] 36 5 0 (opG []) _ rfl rfl (by unfold maxLen; omega) (fun j hj => absurd hj (by omega))).app 0 rfl ho3 hg3 ha3).perm (L' := rowsL bb (.slice AC m cC) (.slice AO (coE n M m).ops.length cO) (.slice AS n cS) (.slice AV n cV) AO cO (coE n M m).ops AC m cC (coC n M) A3 c3' ((coE n M m).ops ++ [])) [1, 2, 3, 0] (by decide) (by simp))
       clear ho3 hg3 ha3)
    | fail)
  clear HW c0 c1 c2 c3 HI hbb
  obtain ⟨O, hO⟩ : ∃ O, O = (coE n M m).ops := ⟨_, rfl⟩
  have HOE := Lib.hid hO
  have HE0 : Hid (Ex n 0 (m + 1) M O []) := Ex.zero ..
  rw [← hO] at HL3 hops ⊢
  clear hO
  go_loopw [7, 61] (fun l i wr => ∃ (j : Nat) (X : List Opr) (A' : Option Addr) (cap' : Nat), j ≤ m ∧ X.length ≤ j ∧ i = .int .i64 (j : Nat) ∧ l = .slice A' (O ++ X).length cap' ∧ Hid (Lay w wr (rowsL bb (.slice AC m cC) (.slice AO O.length cO) (.slice AS n cS) (.slice AV n cV) AO cO O AC m cC (coC n M) A' cap' (O ++ X))) ∧ Hid (Ex n j (m + 1) M O X)) (fun _ i _ => m - (intOf i).toNat)
  case atStart => exact ⟨0, [], A3, c3', by omega, by simp, rfl, by simp, HL3, HE0⟩
  case round =>
    clear HL3 HE0
    obtain ⟨j, X, A1, cap1, hj, hX, rfl, rfl, HL, HE⟩ := hrel
    have hbb := (HL.out.at_ 0 rfl).2
    have c0 := HL.out.cellB 0 rfl 0 (by omega)
    have c1 := HL.out.cellB 0 rfl 1 (by omega)
    simp only [ofL_0, ofL_1] at c0 c1
    by_cases hlt : j < m
    · obtain ⟨ad, rfl, hbl, m0, m1, m2, m3⟩ := (HR.out.below HL.out.bel).rec4 hlt
      clear hbl
      go_upto_region 10 with (fail)
      clear m0 m1 m2 m3 c0 c1
      have hL5 := (HL.out.newB [.int .i64 (M.k j), .int .i64 (M.f j), .int .i64 (M.t j), .int .i64 (M.v j)] 34 4 rfl _ rfl).perm (L' := rowsL bb (.slice AC m cC) (.slice AO O.length cO) (.slice AS n cS) (.slice AV n cV) AO cO O AC m cC (coC n M) A1 cap1 (O ++ X) ++ [mvR wr.heap.size (M.k j) (M.f j) (M.t j) (M.v j)]) [1, 2, 3, 4, 0] (by decide) rfl
      clear HL hbb
      refine at_lay (F := fun W' => Code.wp _ _ _ _ W') hL5 ?_
      clear hL5
      intro W hW
      have HW := Lib.hid hW
      clear hW
      generalize wr.heap.size = bm at HW ⊢
      have HE2 := HE
      have k0 := HW.out.cellB 4 rfl 0 (by omega)
      have k1 := HW.out.cellB 4 rfl 1 (by omega)
      have k2 := HW.out.cellB 4 rfl 2 (by omega)
      have k3 := HW.out.cellB 4 rfl 3 (by omega)
      have c0 := HW.out.cellB 0 rfl 0 (by omega)
      have c1 := HW.out.cellB 0 rfl 1 (by omega)
      simp only [ofL_0, ofL_1, ofL_2, ofL_3] at k0 k1 k2 k3 c0 c1
      obtain ⟨gC, rfl, -⟩ := (HW.out.own 2 _ rfl).pos (by show 0 < m; omega)
      have hC := HW.out.cell1 2 rfl (j := j) hlt
      obtain ⟨xc, hxc⟩ : ∃ x, x = coC n M j := ⟨_, rfl⟩
      rw [← hxc] at hC
      have HXC := Lib.hid hxc
      clear hxc
      by_cases hk : M.k j = 1
      · rw [hk] at k0
        by_cases hc : xc = 0
        · subst hc
          by_cases hv : M.v j < 0
          · have HN := Lib.hid hv
            go_wp2
            go_roundw
            case rel => exact ⟨j + 1, X, A1, cap1, by omega, by omega, by go_num, by first | rfl | simp, HW.out.perm [0, 1, 2, 3] (by decide) rfl, HE.out.skip (fun _ _ h _ _ => absurd HN.out (Int.not_lt.2 h))⟩
            case measure => simp [intOf]; omega
          · have HV0 := Lib.hid hv
            have HK := Lib.hid hk
            obtain ⟨xf, hxf⟩ : ∃ x, x = M.f j := ⟨_, rfl⟩
            obtain ⟨xv, hxv⟩ : ∃ x, x = M.v j := ⟨_, rfl⟩
            rw [← hxf] at k1
            rw [← hxv] at k3
            have HXF := Lib.hid hxf
            have HXV := Lib.hid hxv
            clear hxf
            have hv' : ¬ xv < 0 := by rw [hxv]; exact hv
            clear hxv hv hk
            go_wp2
            go_loopw [10, 85] (fun z i wr => ∃ (q : Nat), q ≤ O.length ∧ i = .int .i64 (q : Nat) ∧ z = .bool (hasD O xf j q) ∧ Hid (Lay w wr (rowsL bb (.slice (some ⟨gC, 0, none⟩) m cC) (.slice AO O.length cO) (.slice AS n cS) (.slice AV n cV) AO cO O (some ⟨gC, 0, none⟩) m cC (coC n M) A1 cap1 (O ++ X) ++ [mvR bm (M.k j) (M.f j) (M.t j) (M.v j)]))) (fun _ i _ => O.length - (intOf i).toNat)
            case atStart => exact ⟨0, by omega, rfl, rfl, HW⟩
            case round =>
              clear HW c0 c1 hC k0 k1 k2 k3
              obtain ⟨q, hq, rfl, rfl, HV⟩ := hrel
              have k1 := HV.out.cellB 4 rfl 1 (by omega)
              have k3 := HV.out.cellB 4 rfl 3 (by omega)
              simp only [ofL_1, ofL_3] at k1 k3
              rw [← HXF.out] at k1
              rw [← HXV.out] at k3
              have hbm := (HV.out.at_ 4 rfl).2
              have hbb := (HV.out.at_ 0 rfl).2
              by_cases hqO : q < O.length
              · obtain ⟨gO, rfl, -⟩ := (HV.out.own 1 _ rfl).pos (by show 0 < O.length; omega)
                obtain ⟨o, ho⟩ : ∃ o, opAt O q = o := ⟨_, rfl⟩
                obtain ⟨o0, o1, o2, o3, o4⟩ := co_op 1 HV.out rfl hqO ho
                have hgO := (HV.out.at_ 1 rfl).2
                have hst : hasD O xf j (q + 1) = (hasD O xf j q || ((o.fr : Int) == xf && o.bg == j)) := by rw [← ho]; rfl
                clear ho
                cases hd : hasD O xf j q
                · rw [hd] at hst
                  by_cases e1 : (o.fr : Int) = xf
                  · have f1 : ((o.fr : Int) == xf) = true := by rw [beq_iff_eq]; exact e1
                    by_cases e2 : o.bg = j
                    · have f2 : (o.bg == j) = true := by rw [beq_iff_eq]; exact e2
                      have f3 : ((o.bg : Int) == (j : Int)) = true := by rw [beq_iff_eq]; omega
                      rw [f1, f2] at hst
                      clear e1 e2
                      go_wp2
                      go_roundw
                      case rel => exact ⟨q + 1, by omega, by go_num, by rw [hst]; rfl, HV.out.alloc _⟩
                      case measure => simp [intOf]; omega
                    · have f2 : (o.bg == j) = false := by rw [beq_eq_false_iff_ne]; exact e2
                      have f3 : ((o.bg : Int) == (j : Int)) = false := by rw [beq_eq_false_iff_ne]; omega
                      rw [f1, f2] at hst
                      clear e1 e2
                      go_wp2
                      go_roundw
                      case rel => exact ⟨q + 1, by omega, by go_num, by rw [hst]; rfl, HV.out.alloc _⟩
                      case measure => simp [intOf]; omega
                  · have f1 : ((o.fr : Int) == xf) = false := by rw [beq_eq_false_iff_ne]; exact e1
                    rw [f1] at hst
                    clear e1
                    go_wp2
                    go_roundw
                    case rel => exact ⟨q + 1, by omega, by go_num, by rw [hst]; rfl, HV.out.alloc _⟩
                    case measure => simp [intOf]; omega
                · rw [hd] at hst
                  go_wp2
                  go_roundw
                  case rel => exact ⟨q + 1, by omega, by go_num, by rw [hst]; rfl, HV.out.alloc _⟩
                  case measure => simp [intOf]; omega
              · obtain rfl : q = O.length := by omega
                obtain ⟨bd, hbd⟩ : ∃ b, b = hasD O xf j O.length := ⟨_, rfl⟩
                rw [← hbd]
                have HBD := Lib.hid hbd
                clear hbd
                obtain ⟨w6, rfl⟩ : ∃ w6, w6 = wr := ⟨_, rfl⟩
                have c1 := HV.out.cellB 0 rfl 1 (by omega)
                simp only [ofL_1] at c1
                go_wp2
                go_loopw [13, 107] (fun z i wr => ∃ (q : Nat), q ≤ O.length ∧ i = .int .i64 (q : Nat) ∧ z = .bool (hasS O xv q) ∧ Hid (Lay w wr (rowsL bb (.slice (some ⟨gC, 0, none⟩) m cC) (.slice AO O.length cO) (.slice AS n cS) (.slice AV n cV) AO cO O (some ⟨gC, 0, none⟩) m cC (coC n M) A1 cap1 (O ++ X) ++ [mvR bm (M.k j) (M.f j) (M.t j) (M.v j)]))) (fun _ i _ => O.length - (intOf i).toNat)
                case atStart => exact ⟨0, by omega, rfl, rfl, HV⟩
                case round =>
                  clear HV c1 k1 k3
                  obtain ⟨q, hq, rfl, rfl, HV⟩ := hrel
                  have k1 := HV.out.cellB 4 rfl 1 (by omega)
                  have k3 := HV.out.cellB 4 rfl 3 (by omega)
                  simp only [ofL_1, ofL_3] at k1 k3
                  rw [← HXF.out] at k1
                  rw [← HXV.out] at k3
                  have hbm := (HV.out.at_ 4 rfl).2
                  have hbb := (HV.out.at_ 0 rfl).2
                  by_cases hqO : q < O.length
                  · obtain ⟨gO, rfl, -⟩ := (HV.out.own 1 _ rfl).pos (by show 0 < O.length; omega)
                    obtain ⟨o, ho⟩ : ∃ o, opAt O q = o := ⟨_, rfl⟩
                    obtain ⟨o0, o1, o2, o3, o4⟩ := co_op 1 HV.out rfl hqO ho
                    have hgO := (HV.out.at_ 1 rfl).2
                    have hst : hasS O xv (q + 1) = (hasS O xv q || (!o.wr && o.vl == xv)) := by rw [← ho]; rfl
                    clear ho
                    cases hd : hasS O xv q
                    · rw [hd] at hst
                      cases hw : o.wr
                      · rw [hw] at hst o3
                        by_cases e1 : o.vl = xv
                        · have f1 : (o.vl == xv) = true := by rw [beq_iff_eq]; exact e1
                          rw [f1] at hst
                          clear e1
                          go_wp2
                          go_roundw
                          case rel => exact ⟨q + 1, by omega, by go_num, by rw [hst]; rfl, HV.out.alloc _⟩
                          case measure => simp [intOf]; omega
                        · have f1 : (o.vl == xv) = false := by rw [beq_eq_false_iff_ne]; exact e1
                          rw [f1] at hst
                          clear e1
                          go_wp2
                          go_roundw
                          case rel => exact ⟨q + 1, by omega, by go_num, by rw [hst]; rfl, HV.out.alloc _⟩
                          case measure => simp [intOf]; omega
                      · rw [hw] at hst o3
                        go_wp2
                        go_roundw
                        case rel => exact ⟨q + 1, by omega, by go_num, by rw [hst]; rfl, HV.out.alloc _⟩
                        case measure => simp [intOf]; omega
                    · rw [hd] at hst
                      go_wp2
                      go_roundw
                      case rel => exact ⟨q + 1, by omega, by go_num, by rw [hst]; rfl, HV.out.alloc _⟩
                      case measure => simp [intOf]; omega
                  · obtain rfl : q = O.length := by omega
                    obtain ⟨bs, hbs⟩ : ∃ b, b = hasS O xv O.length := ⟨_, rfl⟩
                    rw [← hbs]
                    have HBS := Lib.hid hbs
                    clear hbs
                    have hLX : (O ++ X).length = O.length + X.length := List.length_append
                    cases bd
                    · cases bs
                      · have HNX : Hid (Ex n (j + 1) (m + 1) M O X) := Lib.hid (HE.out.skip (fun _ _ _ _ h => absurd (by rw [HXV.out]; exact h) (hasS_all HBS.out.symm)))
                        go_wp2
                        go_roundw
                        case rel => exact ⟨j + 1, X, A1, cap1, by omega, by omega, by go_num, by first | rfl | simp, HV.out.perm [0, 1, 2, 3] (by decide) rfl, HNX⟩
                        case measure => simp [intOf]; omega
                      · have hf0 : 0 ≤ xf := by rw [HXF.out]; exact coC_from HK.out HXC.out.symm
                        obtain ⟨f, rfl⟩ := Int.eq_ofNat_of_zero_le hf0
                        clear hf0
                        have HNX : Hid (Ex n (j + 1) (m + 1) M O (X ++ [⟨f, j, m + 1, true, xv⟩])) := Lib.hid (by
                          rw [HXV.out]
                          exact HE.out.more HK.out HXC.out.symm HV0.out HXF.out.symm (by rw [← HXF.out]; exact hasD_all HBD.out.symm))
                        have hsz := HV.out.size
                        have hown : Own wr w.heap.size 36 5 A1 (O ++ X).length cap1 (opG (O ++ X)) := HV.out.own 3 _ rfl
                        rw [hLX] at hown
                        go_wp2_with (first
                          | (at_builtin; refine wpList_apOp rfl (.tmp 130) (.tmp 140) rfl w.heap.size (l := O ++ X) rfl hLX.symm (w0 := wr) wr.heap.size ⟨f, j, m + 1, true, xv⟩ ?hw rfl hown rfl (by omega) hsz ?_; rotate_left; intro A3 c3' w3 ho3 hg3 ha3
                             have HO3 := Lib.hid ho3
                             clear ho3)
                          | fail)
                        have hL3 := ((HV.out.alloc (.cells #[.int .i64 (f : Nat), .int .i64 (j : Nat), .int .i64 ((m + 1 : Nat) : Nat), .bool true, .int .i64 xv] 36)).app 3 rfl HO3.out hg3 ha3)
                        have hL4 : Lay w w3 (rowsL bb (.slice (some ⟨gC, 0, none⟩) m cC) (.slice AO O.length cO) (.slice AS n cS) (.slice AV n cV) AO cO O (some ⟨gC, 0, none⟩) m cC (coC n M) A3 c3' (O ++ (X ++ [⟨f, j, m + 1, true, xv⟩]))) := hL3.perm [0, 1, 2, 3] (by decide) (by rw [← List.append_assoc]; simp [Nat.add_assoc])
                        have HL3 := Lib.hid hL4
                        clear hL3 hL4 HO3 hg3 ha3
                        go_roundw
                        case rel => exact ⟨j + 1, X ++ [⟨f, j, m + 1, true, xv⟩], A3, c3', by omega, by simp; omega, by go_num, by simp; try omega, HL3, HNX⟩
                        case measure => simp [intOf]; omega
                    · have HNX : Hid (Ex n (j + 1) (m + 1) M O X) := Lib.hid (HE.out.skip (fun _ _ _ h _ => absurd (by rw [HXF.out]; exact h) (hasD_any HBD.out.symm)))
                      go_wp2
                      go_roundw
                      case rel => exact ⟨j + 1, X, A1, cap1, by omega, by omega, by go_num, by first | rfl | simp, HV.out.perm [0, 1, 2, 3] (by decide) rfl, HNX⟩
                      case measure => simp [intOf]; omega
        · have e2 : (xc == 0) = false := by rw [beq_eq_false_iff_ne]; exact hc
          go_wp2
          go_roundw
          case rel => exact ⟨j + 1, X, A1, cap1, by omega, by omega, by go_num, by first | rfl | simp, HW.out.perm [0, 1, 2, 3] (by decide) rfl, HE.out.skip (fun _ h _ _ _ => absurd (HXC.out.trans h) hc)⟩
          case measure => simp [intOf]; omega
      · have e1 : (M.k j == 1) = false := by rw [beq_eq_false_iff_ne]; exact hk
        go_wp2
        go_roundw
        case rel => exact ⟨j + 1, X, A1, cap1, by omega, by omega, by go_num, by first | rfl | simp, HW.out.perm [0, 1, 2, 3] (by decide) rfl, HE.out.skip (fun h _ _ _ _ => absurd h hk)⟩
        case measure => simp [intOf]; omega
    · obtain rfl : j = m := by omega
      have hOX : (O ++ X).length = O.length + X.length := List.length_append
      by_cases h8 : (O ++ X).length ≤ 8
      · have hls := line_says n j M X (by omega)
        rw [← HOE.out] at hls
        have hls := hls HE.out h8 wr.heap.size A1 cap1 wr (Nat.le_refl _) (HL.out.own 3 _ rfl).le (HL.out.own 3 _ rfl).rd
        simp only [List.length_append] at hls
        go_wp2_with (first | (go_at_call 10; refine hls.mono ?_; rintro e w5 ⟨v, rfl, rfl, hb5⟩) | fail)
        go_ret
        exact ⟨rfl, HL.out.bel.trans (hb5.mono HL.out.bel.size)⟩
      · go_wp2
        go_ret
        exact ⟨rfl, HL.out.bel⟩
theorem copiesLine_all (n : Int) (A : Option Addr) (m cap : Nat) (M : Mv) (w : World) (_ : (Lit.int .i64 n).wf = true) (hmc : m ≤ cap ∧ cap ≤ maxLen) (hr : Rd w w.heap.size A (m * 4) (mvF M)) :
    Calls Try.prog 6 #[.int .i64 n, .slice A m cap] w fun e w' => e = .returned (.bool true) ∧ Below w.heap.size w w' := copiesLine_go n m cap A M w hr (by omega)
end Go.Proofs.Ytoakgoigamigjaa
