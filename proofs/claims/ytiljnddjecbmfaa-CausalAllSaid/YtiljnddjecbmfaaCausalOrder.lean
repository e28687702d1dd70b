/- The law CausalOrder, walked. -/
import Derived.Test.YtiljnddjecbmfaaCaLaw
import Derived.Test.YtiljnddjecbmfaaCaInv
import Derived.Test.YtiljnddjecbmfaaInside
import Derived.Test.YtiljnddjecbmfaaHas
set_option linter.unusedVariables false
set_option linter.unusedSimpArgs false
namespace Go.Proofs.Ytiljnddjecbmfaa
open Go.RowKit Go.Maps Go.MapKept

set_option maxHeartbeats 800000 in
theorem at_is (A : Option Addr) (n cap B : Nat) (f : Nat → Int) (x : Int) (w : World) (hn : n ≤ 1000) (hr : Rd w B A n (fun j => .int .i64 (f j))) (hx : ∃ i, i < n ∧ f i = x) :
    Calls Try.prog 10 #[.slice A n cap, .int .i64 x] w fun e w' => ∃ i : Nat, e = .returned (.int .i64 (i : Nat)) ∧ i < n ∧ f i = x ∧ (∀ j, j < i → f j ≠ x) ∧ w = w' := by
  have HR := Lib.hid hr; clear hr
  have HX := Lib.hid hx; clear hx
  go_enter Try.func10, Try.ntmps10
  go_wp2
  go_loop [9] (fun i => ∃ k : Nat, k ≤ n ∧ i = .int .i64 k ∧ Hid (∀ j, j < k → f j ≠ x)) (fun i => n - (intOf i).toNat)
  case atStart => exact ⟨0, by omega, rfl, fun j hj => absurd hj (by omega)⟩
  case round =>
    obtain ⟨k, hk, rfl, HA⟩ := hrel
    by_cases hlt : k < n
    · obtain ⟨ad, rfl, _, hc⟩ := HR.out (by omega)
      have hck := hc k hlt
      clear hc
      by_cases he : f k = x
      · have he' : (x == f k) = true := beq_iff_eq.2 he.symm
        have HE := Lib.hid he
        clear he
        go_wp2
        go_ret
        exact ⟨k, rfl, hlt, HE.out, HA.out, rfl⟩
      · have he' : (x == f k) = false := beq_eq_false_iff_ne.2 (fun h => he h.symm)
        have HE := Lib.hid he
        clear he
        go_wp2
        go_round
        case rel => exact ⟨k + 1, by omega, by go_num, fun j hj => (Nat.lt_succ_iff_lt_or_eq.1 hj).elim (HA.out j) (fun e => by subst e; exact HE.out)⟩
        case measure => simp [intOf]; omega
    · exfalso
      obtain ⟨i, h1, h2⟩ := HX.out
      exact HA.out i (by omega) h2
theorem bef_take {k : Nat} : ∀ {l : List Nat} {i : Nat}, (∀ j, j < i → l[j]? ≠ some k) → l[i]? = some k → bef l k = l.take i
  | [], i, _, h => by simp at h
  | x :: l, 0, _, h => by
    have : x = k := by simpa using h
    subst this
    simp [bef]
  | x :: l, i + 1, h1, h2 => by
    have hx : x ≠ k := fun e => h1 0 (by omega) (by simp [e])
    have := bef_take (l := l) (i := i) (fun j hj => by have := h1 (j + 1) (by omega); simpa using this) (by simpa using h2)
    unfold bef at this ⊢
    rw [List.takeWhile_cons, if_pos (by simpa using hx), this, List.take_succ_cons]
theorem settle_m {n i : Nat} : ∀ (f : Nat) (s : CaS), (settleC n i f s).m = s.m ∧ (settleC n i f s).by_ = s.by_
  | 0, _ => ⟨rfl, rfl⟩
  | f + 1, s => by
    rw [settleC]
    split
    · exact ⟨rfl, rfl⟩
    · rename_i k hk
      have := settle_m (n := n) (i := i) f (tellC i k s)
      exact ⟨this.1, this.2⟩
theorem step_m (n : Nat) (k f t v : Int) (s : CaS) : (k = 1 ∧ inB n f = true ∧ (caStep n k f t v s).2.m = s.m + 1 ∧ (caStep n k f t v s).2.by_ = upd s.by_ s.m f.toNat) ∨ (¬ (k = 1 ∧ inB n f = true) ∧ (caStep n k f t v s).2.m = s.m ∧ (caStep n k f t v s).2.by_ = s.by_) := by
  unfold caStep
  split
  · split
    · exact .inl ⟨by assumption, by assumption, rfl, rfl⟩
    · exact .inr ⟨fun h => by rename_i h2; exact h2 h.2, rfl, rfl⟩
  · rename_i h1
    refine .inr ⟨fun h => h1 h.1, ?_⟩
    split
    · split
      · split
        · split
          · exact ⟨rfl, rfl⟩
          · exact settle_m _ (markC t.toNat v.toNat s)
        · exact ⟨rfl, rfl⟩
      · exact ⟨rfl, rfl⟩
    · exact ⟨rfl, rfl⟩
abbrev byR (A : Option Addr) (m cap : Nat) (b : Nat → Nat) : LRow := lst A 3 m cap (fun k => .int .i64 ((b k : Nat) : Int))
set_option maxRecDepth 100000 in
set_option maxHeartbeats 6400000 in
theorem causalOrder_good (n m cap : Nat) (p : Int) (A : Option Addr) (M : Mv) (w : World) (hr : Rd w w.heap.size A (m * 4) (mvF M)) (h1 : 1 ≤ n) (h6 : n ≤ 6) (hm6 : m ≤ 60) :
    Calls Try.prog 3 #[.int .i64 n, .slice A m cap, .int .i64 p] w fun e w' => e = .returned (.bool true) ∧ Below w.heap.size w w' := by
  have HR := Lib.hid hr; clear hr
  obtain ⟨iI, hiI, hzI0, hzI1, hzI2⟩ := info_parts infoIntC
  have HBP : Hid (playedB n m = true) := Lib.hid (playedB_iff.2 ⟨by omega, by omega, by omega⟩)
  go_enter Try.func3, Try.ntmps3
  go_wp2_with fail
  refine (ca_good n w m cap _ A M h1 h6 hm6 (Nat.le_refl _) HR.out).mono ?_
  rintro e w1 ⟨v, rfl, g, cl, gt, gc, cc, gm, cm, AL, bc, f, AC, cC, rfl, br, hL⟩
  have HL := Lib.hid ((LayQ.newB hL [.slice AC m cC, .slice (some ⟨gt, 0, none⟩) n n] 26 2 rfl _ rfl).rot5)
  clear hL
  go_wp2_with fail
  refine at_layQ (F := fun W' => Calls _ _ _ W' _) HL.out ?_
  intro W hW
  have HW := Lib.hid hW
  clear hW HL
  generalize w1.heap.size = q1 at HW ⊢
  have c0 := HW.out.lay.cellB 5 rfl 0 (by omega)
  have c1 := HW.out.lay.cellB 5 rfl 1 (by omega)
  simp only [ofL_0, ofL_1] at c0 c1
  refine (bool_is (played_any n m _) HBP.out).mono ?_
  rintro e w3 ⟨rfl, rfl⟩
  clear HBP
  by_cases hp : 0 ≤ p ∧ p < n
  · obtain ⟨p, rfl⟩ := Int.eq_ofNat_of_zero_le hp.1
    have hpn : p < n := by omega
    clear hp
    go_wp2_with fail
    refine (inside1 true (n : Int) (p : Int) W _ _ rfl (by simp; omega)).mono ?_
    rintro e w3 ⟨rfl, rfl⟩
    have HLA := Lib.hid (HW.out.alloc (.cells #[.int .i64 (p : Nat)] 3))
    clear c0 c1 HW
    have HL0 : Hid (LayC g cl gt gc cc gm cm n AL bc [byR none (caE n M 0).m 0 (caE n M 0).by_, blkH q1 [.slice AC m cC, .slice (some ⟨gt, 0, none⟩) n n], lstC AC m cC (caC n M), blkH br [.slice AC m cC, .slice (some ⟨gt, 0, none⟩) n n]] w f (caE n M m) (W.alloc (.cells #[.int .i64 (p : Nat)] 3))) := Lib.hid ((LayQ.lnil HLA.out 3 1 (fun k => .int .i64 (((caE n M 0).by_ k : Nat) : Int))).rot5)
    clear HLA
    go_wp2
    generalize W.alloc (.cells #[.int .i64 (p : Nat)] 3) = W1 at HL0 ⊢
    go_loopw [9, 57] (fun bv iv wr => ∃ (j : Nat) (A2 : Option Addr) (cap2 : Nat), j ≤ m ∧ iv = .int .i64 j ∧ bv = .slice A2 (caE n M j).m cap2 ∧ Hid (LayC g cl gt gc cc gm cm n AL bc [byR A2 (caE n M j).m cap2 (caE n M j).by_, blkH q1 [.slice AC m cC, .slice (some ⟨gt, 0, none⟩) n n], lstC AC m cC (caC n M), blkH br [.slice AC m cC, .slice (some ⟨gt, 0, none⟩) n n]] w f (caE n M m) wr)) (fun _ iv _ => m - (intOf iv).toNat)
    case atStart => exact ⟨0, none, 0, by omega, rfl, rfl, HL0⟩
    case round =>
      clear HL0
      obtain ⟨j, A2, cap2, hj, rfl, rfl, HQ⟩ := hrel
      by_cases hlt : j < m
      · obtain ⟨ad, rfl, hbl, m0, m1, m2, m3⟩ := (HR.out.below HQ.out.lay.bel).rec4 hlt
        clear hbl
        have hstep := step_m n (M.k j) (M.f j) (M.t j) (M.v j) (caE n M j)
        have hmj := (caE_B n M j).m
        have e9 : (caStep n (M.k j) (M.f j) (M.t j) (M.v j) (caE n M j)).2 = caE n M (j + 1) := rfl
        rw [e9] at hstep
        have HQ1 := Lib.hid (HQ.out.alloc (.cells #[.int .i64 (M.k j), .int .i64 (M.f j), .int .i64 (M.t j), .int .i64 (M.v j)] 34))
        have HST := Lib.hid hstep
        clear hstep e9 HQ
        by_cases hk : M.k j = 1
        · rw [hk] at m0 HQ1
          have HQ2 := Lib.hid (HQ1.out.alloc (.cells #[.int .i64 (M.f j)] 3))
          cases hf : inB n (M.f j)
          · have HN : Hid (LayC g cl gt gc cc gm cm n AL bc [byR A2 (caE n M (j + 1)).m cap2 (caE n M (j + 1)).by_, blkH q1 [.slice AC m cC, .slice (some ⟨gt, 0, none⟩) n n], lstC AC m cC (caC n M), blkH br [.slice AC m cC, .slice (some ⟨gt, 0, none⟩) n n]] w f (caE n M m) _) := Lib.hid (by
              rcases HST.out with ⟨_, q2, _⟩ | ⟨_, q1, q2⟩
              · rw [hf] at q2; cases q2
              · rw [q1, q2]; exact HQ2.out)
            have HNM : Hid ((caE n M (j + 1)).m = (caE n M j).m) := Lib.hid (by
              rcases HST.out with ⟨_, q2, _⟩ | ⟨_, q1, q2⟩
              · rw [hf] at q2; cases q2
              · exact q1)
            unfold inB at hf
            clear hk HQ2
            go_wp2_with fail
            refine (inside1 false (n : Int) (M.f j) (wr.alloc (.cells #[.int .i64 1, .int .i64 (M.f j), .int .i64 (M.t j), .int .i64 (M.v j)] 34)) 3 (wr.heap.size + 1) (by simp) hf).mono ?_
            rintro e w3 ⟨rfl, rfl⟩
            go_wp2
            go_roundw
            case rel => exact ⟨j + 1, A2, cap2, by omega, by go_num, by rw [HNM.out], HN⟩
            case measure => simp [intOf]; omega
          · have hfi : 0 ≤ M.f j ∧ M.f j < n := by simpa [inB] using hf
            obtain ⟨fi, hfe⟩ := Int.eq_ofNat_of_zero_le hfi.1
            have HFE : Hid ((M.f j).toNat = fi) := Lib.hid (by omega)
            have HST2 : Hid ((caE n M (j + 1)).m = (caE n M j).m + 1 ∧ (caE n M (j + 1)).by_ = upd (caE n M j).by_ (caE n M j).m fi) := Lib.hid (by
              rcases HST.out with ⟨_, _, q1, q2⟩ | ⟨q0, _⟩
              · rw [HFE.out] at q2; exact ⟨q1, q2⟩
              · exact absurd ⟨hk, hf⟩ q0)
            unfold inB at hf
            rw [hfe] at hf m1 HQ2
            clear hk hfi hfe HST HQ1
            go_wp2_with fail
            refine (inside1 true (n : Int) (fi : Int) (wr.alloc (.cells #[.int .i64 1, .int .i64 (fi : Nat), .int .i64 (M.t j), .int .i64 (M.v j)] 34)) 3 (wr.heap.size + 1) (by simp) hf).mono ?_
            rintro e w3 ⟨rfl, rfl⟩
            have HQ3 := Lib.hid (HQ2.out.alloc (.cells #[.int .i64 (fi : Nat)] 3))
            clear HQ2
            go_wp2_with (first
              | (at_builtin; refine wpList_ap1 rfl (.tmp 71) (.tmp 74) _ rfl 3 iI _ 8 Try.underlying32 hiI hzI0 hzI1 hzI2 rfl w.heap.size rfl (HQ3.out.lay.own 5 _ rfl) rfl (cell_new _ _ _ _ _ (by simp) (one_cell _)) (fun _ _ => rfl) (fun k => .int .i64 ((upd (caE n M j).by_ (caE n M j).m fi k : Nat) : Int)) (fun k hk => by rw [upd_ne _ _ (by omega)]) (one_at (by rw [Nat.add_zero, upd_same])) ((caE n M j).m + 1) rfl (by unfold maxLen; omega) (by omega) HQ3.out.size ?_
                 intro A4 cap4 w4 ho hg ha
                 have H4 := Lib.hid (HQ3.out.app 5 rfl ho hg ha)
                 clear ho hg ha HQ3)
              | fail)
            have HN : Hid (LayC g cl gt gc cc gm cm n AL bc [byR A4 (caE n M (j + 1)).m cap4 (caE n M (j + 1)).by_, blkH q1 [.slice AC m cC, .slice (some ⟨gt, 0, none⟩) n n], lstC AC m cC (caC n M), blkH br [.slice AC m cC, .slice (some ⟨gt, 0, none⟩) n n]] w f (caE n M m) w4) := Lib.hid (by
              rw [HST2.out.1, HST2.out.2]; exact H4.out)
            go_roundw
            case rel => exact ⟨j + 1, A4, cap4, by omega, by go_num, by rw [HST2.out.1], HN⟩
            case measure => simp [intOf]; omega
        · have HN : Hid (LayC g cl gt gc cc gm cm n AL bc [byR A2 (caE n M (j + 1)).m cap2 (caE n M (j + 1)).by_, blkH q1 [.slice AC m cC, .slice (some ⟨gt, 0, none⟩) n n], lstC AC m cC (caC n M), blkH br [.slice AC m cC, .slice (some ⟨gt, 0, none⟩) n n]] w f (caE n M m) _) := Lib.hid (by
            rcases HST.out with ⟨q2, _⟩ | ⟨_, q1, q2⟩
            · exact absurd q2 hk
            · rw [q1, q2]; exact HQ1.out)
          have HNM : Hid ((caE n M (j + 1)).m = (caE n M j).m) := Lib.hid (by
            rcases HST.out with ⟨q2, _⟩ | ⟨_, q1, q2⟩
            · exact absurd q2 hk
            · exact q1)
          have ek : (M.k j == 1) = false := by rw [beq_eq_false_iff_ne]; exact hk
          clear hk
          go_wp2
          go_roundw
          case rel => exact ⟨j + 1, A2, cap2, by omega, by go_num, by rw [HNM.out], HN⟩
          case measure => simp [intOf]; omega
      · obtain rfl : j = m := by omega
        have hJ := caE_J n M j
        have hB := caE_B n M j
        generalize caE n M j = s at *
        have HJ := Lib.hid hJ
        have HB := Lib.hid hB
        have hmj := hB.m
        have hlen := hB.len p
        obtain ⟨A1, cap1, hf1, ha1, ha2, d1⟩ := ca_told HQ.out hpn
        have HRT : Hid (∀ W', LayC g cl gt gc cc gm cm n AL bc [byR A2 s.m cap2 s.by_, blkH q1 [.slice AC j cC, .slice (some ⟨gt, 0, none⟩) n n], lstC AC j cC (caC n M), blkH br [.slice AC j cC, .slice (some ⟨gt, 0, none⟩) n n]] w f s W' → Rd W' W'.heap.size A1 (s.told p).length (fun q => .int .i64 (((s.told p)[q]?.getD 0 : Nat) : Int))) := Lib.hid fun W' h => by
          have hq := h.own (.inl (.inl p))
          rw [hf1] at hq
          exact qsl_rd (l := s.told p) rfl hq
        have c1 := HQ.out.lay.cellB 6 rfl 1 (by omega)
        simp only [ofL_1] at c1
        have ha2' : cap1 ≤ 9223372036854775807 := by unfold maxLen at ha2; omega
        clear hJ hB hf1 ha2
        obtain ⟨T, hT⟩ : ∃ T, s.told p = T := ⟨_, rfl⟩
        rw [hT] at HRT d1 ha1 hlen
        have HT := Lib.hid hT
        clear hT
        go_wp2
        clear c1 d1
        go_loopw [84] (fun v wr => ∃ k : Nat, k ≤ T.length ∧ v = .int .i64 (k : Nat) ∧ Hid (LayC g cl gt gc cc gm cm n AL bc [byR A2 s.m cap2 s.by_, blkH q1 [.slice AC j cC, .slice (some ⟨gt, 0, none⟩) n n], lstC AC j cC (caC n M), blkH br [.slice AC j cC, .slice (some ⟨gt, 0, none⟩) n n]] w f s wr)) (fun v _ => T.length - (intOf v).toNat)
        case atStart => exact ⟨0, by omega, rfl, HQ⟩
        case round =>
          clear HQ
          obtain ⟨k, hk, rfl, HQ⟩ := hrel
          by_cases hkl : k < T.length
          · obtain ⟨ad, rfl, _, hc⟩ := HRT.out wr HQ.out (by omega)
            have hck : wr.cell? (ad.add k) = some (.int .i64 ((T[k]?.getD 0 : Nat) : Int)) := hc k hkl
            obtain ⟨y, hy⟩ : ∃ y, T[k]?.getD 0 = y := ⟨_, rfl⟩
            rw [hy] at hck
            have hTk : T[k]? = some y := by rw [List.getElem?_eq_getElem hkl] at hy ⊢; simpa using hy
            have hyT : y ∈ T := List.mem_of_getElem? hTk
            have hym : y < s.m := HB.out.told p y (by rw [HT.out]; exact hyT)
            have hby := HB.out.by_ y hym
            have HNH : Hid (hasB (fun q => ((T[q]?.getD 0 : Nat) : Int)) k (y : Int) = false) := Lib.hid (hasB_no.2 fun q hq e => by
              have hnd := HB.out.nd p
              rw [HT.out] at hnd
              have hq2 : T[q]? = some y := by
                have hql : q < T.length := by omega
                rw [List.getElem?_eq_getElem hql] at e ⊢
                have e2 : (y : Int) = ((T[q] : Nat) : Int) := by simpa using e
                congr 1; omega
              have := (List.getElem?_inj (by omega) hnd).1 (hq2.trans hTk.symm)
              omega)
            obtain ⟨gb, rfl, -, -, -, -⟩ := (HQ.out.lay.own 5 _ rfl).pos1 (show 0 < s.m by omega)
            have HQ5 := Lib.hid (HQ.out.alloc (.cells #[.int .i64 (y : Nat)] 3))
            clear hc hy HQ
            go_wp2_with fail
            refine (inside1 true (s.m : Int) (y : Int) wr 3 wr.heap.size rfl (by simp; omega)).mono ?_
            rintro e w3 ⟨rfl, rfl⟩
            go_wp2_with fail
            refine at_layQ (F := fun W' => Calls _ _ _ W' _) HQ5.out ?_
            intro W5 hW5
            have HW5 := Lib.hid hW5
            clear hW5 HQ5 hck
            have HR5 := Lib.hid (HRT.out W5 HW5.out)
            refine (has_is false (some ad) k cap1 _ (fun q => ((T[q]?.getD 0 : Nat) : Int)) (y : Int) _ (by unfold maxLen; omega) (HR5.out.less (by omega)) HNH.out).mono ?_
            rintro e w3 ⟨rfl, rfl⟩
            have d2 : W5.cell? ⟨gb, y, none⟩ = some (.int .i64 ((s.by_ y : Nat) : Int)) := HW5.out.lay.cell1 5 rfl hym
            have d3 := HW5.out.lay.cellB 6 rfl 1 (by omega)
            simp only [ofL_1] at d3
            obtain ⟨A3, cap3, hf3, hb1, hb2, d4⟩ := ca_told HW5.out hby
            have hb2' : cap3 ≤ 9223372036854775807 := by unfold maxLen at hb2; omega
            have hl3 := HB.out.len (s.by_ y)
            have HR3 : Hid (∀ W', LayC g cl gt gc cc gm cm n AL bc [byR (some ⟨gb, 0, none⟩) s.m cap2 s.by_, blkH q1 [.slice AC j cC, .slice (some ⟨gt, 0, none⟩) n n], lstC AC j cC (caC n M), blkH br [.slice AC j cC, .slice (some ⟨gt, 0, none⟩) n n]] w f s W' → Rd W' W'.heap.size A3 (s.told (s.by_ y)).length (fun q => .int .i64 (((s.told (s.by_ y))[q]?.getD 0 : Nat) : Int))) := Lib.hid fun W' h => by
              have hq := h.own (.inl (.inl (s.by_ y)))
              rw [hf3] at hq
              exact qsl_rd (l := s.told (s.by_ y)) rfl hq
            have hown := HB.out.told
            have HOWN := Lib.hid (HJ.out.own y hym)
            have HORD := Lib.hid (HJ.out.ord p y (by rw [HT.out]; exact hyT))
            rw [HT.out] at HORD
            have hnd := HB.out.nd p
            rw [HT.out] at hnd
            have HBT : Hid (bef T y = T.take k) := Lib.hid (bef_take (fun q hq e => by
              have := (List.getElem?_inj (by omega) hnd).1 (e.trans hTk.symm)
              omega) hTk)
            obtain ⟨U, hU⟩ : ∃ U, s.told (s.by_ y) = U := ⟨_, rfl⟩
            rw [hU] at HR3 HORD HOWN d4 hb1 hl3
            clear hown hnd hf3 hb2 hU
            have HTK := Lib.hid hTk
            clear hTk hyT
            go_wp2
            refine wp_text_all (by kernel_rfl) (by kernel_rfl) (by kernel_rfl) (by repeat' (first | (with_reducible apply tame_then) | (with_reducible apply tame_block) | (with_reducible apply tame_scope) | exact tame_gives | exact tame_body (fun _ _ h => ⟨_, h.1⟩))) ?_
            go_wp2
            refine headed ?_
            go_wp2_with fail
            refine (at_is A3 U.length cap3 _ (fun q => ((U[q]?.getD 0 : Nat) : Int)) (y : Int) W5.drew (by omega) (HR3.out W5.drew HW5.out.drew) (by
              obtain ⟨q, hq⟩ := List.getElem?_of_mem HOWN.out
              exact ⟨q, (List.getElem?_eq_some_iff.1 hq).1, by rw [hq]; rfl⟩)).mono ?_
            rintro e w5 ⟨i, rfl, hi1, hi2, hi3, rfl⟩
            have HBU : Hid (bef U y = U.take i) := Lib.hid (bef_take (fun q hq e => hi3 q hq (by show ((U[q]?.getD 0 : Nat) : Int) = _; rw [e]; rfl)) (by
              have hi2 : ((U[i]?.getD 0 : Nat) : Int) = y := hi2
              rw [List.getElem?_eq_getElem hi1] at hi2 ⊢
              have hi2 : ((U[i] : Nat) : Int) = y := by simpa using hi2
              congr 1; omega))
            clear hi2 hi3
            have HW6 := Lib.hid (HW5.out.drew)
            clear HW5 d2 d3 d4 HR5
            go_wp2
            go_loopw [119] (fun v wr => ∃ q : Nat, q ≤ i ∧ v = .int .i64 (q : Nat) ∧ Hid (LayC g cl gt gc cc gm cm n AL bc [byR (some ⟨gb, 0, none⟩) s.m cap2 s.by_, blkH q1 [.slice AC j cC, .slice (some ⟨gt, 0, none⟩) n n], lstC AC j cC (caC n M), blkH br [.slice AC j cC, .slice (some ⟨gt, 0, none⟩) n n]] w f s wr)) (fun v _ => i - (intOf v).toNat)
            case atStart => exact ⟨0, by omega, rfl, HW6⟩
            case round =>
              clear HW6
              obtain ⟨q, hq, rfl, HQ⟩ := hrel
              by_cases hqi : q < i
              · obtain ⟨ad3, rfl, _, hc3⟩ := HR3.out wr HQ.out (by omega)
                have hcq : wr.cell? (ad3.add q) = some (.int .i64 ((U[q]?.getD 0 : Nat) : Int)) := hc3 q (by omega)
                obtain ⟨x, hx⟩ : ∃ x, U[q]?.getD 0 = x := ⟨_, rfl⟩
                rw [hx] at hcq
                have hUq : U[q]? = some x := by
                  have hql : q < U.length := by omega
                  rw [List.getElem?_eq_getElem hql] at hx ⊢; simpa using hx
                have hxm : x ∈ bef T y := HORD.out x (by
                  rw [HBU.out]
                  exact List.mem_of_getElem? (i := q) (by rw [List.getElem?_take_of_lt hqi]; exact hUq))
                rw [HBT.out] at hxm
                obtain ⟨q2, hq2⟩ := List.getElem?_of_mem hxm
                have hq2k : q2 < k := by
                  have := (List.getElem?_eq_some_iff.1 hq2).1
                  simp at this; omega
                rw [List.getElem?_take_of_lt hq2k] at hq2
                have HQ2 := Lib.hid hq2
                clear hc3 hx hUq hxm hq2
                go_wp2_with fail
                refine (at_is (some ad) T.length cap1 _ (fun q => ((T[q]?.getD 0 : Nat) : Int)) (x : Int) wr (by omega) (HRT.out wr HQ.out) ⟨q2, by omega, by show ((T[q2]?.getD 0 : Nat) : Int) = _; rw [HQ2.out]; rfl⟩).mono ?_
                rintro e w5 ⟨i2, rfl, hi21, hi22, hi23, rfl⟩
                have hle : i2 ≤ q2 := by
                  apply Classical.byContradiction
                  intro hgt
                  exact hi23 q2 (by omega) (by show ((T[q2]?.getD 0 : Nat) : Int) = _; rw [HQ2.out]; rfl)
                clear hi22 hi23
                go_wp2
                go_roundw
                case rel => exact ⟨q + 1, by omega, by go_num, HQ⟩
                case measure => simp [intOf]; omega
              · obtain rfl : q = i := by omega
                go_wp2
                go_roundw
                case rel => exact ⟨k + 1, by omega, by go_num, HQ⟩
                case measure => simp [intOf]; omega
          · obtain rfl : k = T.length := by omega
            go_wp2
            go_ret
            exact ⟨rfl, HQ.out.lay.bel⟩
  · have hpf : (decide (0 ≤ p) && decide (p < (n : Int))) = false := by
      rw [Bool.and_eq_false_iff, decide_eq_false_iff_not, decide_eq_false_iff_not]; omega
    clear hp
    go_wp2_with fail
    refine (inside1 false (n : Int) p W _ _ rfl hpf).mono ?_
    rintro e w3 ⟨rfl, rfl⟩
    go_wp2
    go_ret
    exact ⟨rfl, (HW.out.lay.alloc _).bel⟩
theorem causalOrder_bad (n : Int) (m cap : Nat) (p : Int) (A : Option Addr) (w : World) (hm : m ≤ maxLen) (hb : playedB n m = false) :
    Calls Try.prog 3 #[.int .i64 n, .slice A m cap, .int .i64 p] w fun e w' => e = .returned (.bool true) ∧ Below w.heap.size w w' := by
  have HB := Lib.hid hb; clear hb
  have HM := Lib.hid hm
  go_enter Try.func3, Try.ntmps3
  go_wp2_with fail
  refine (ca_bad n m cap A w HM.out HB.out).mono ?_
  rintro e w1 ⟨rfl, hb1⟩
  have HB1 := Lib.hid (hb1.alloc hb1.size (.cells #[.slice none 0 0, .slice none 0 0] 26)); clear hb1
  unfold maxLen at hm
  go_wp2_with (go_at_call 7; refine (bool_is (played_any n m _) HB.out).mono ?_; rintro e w3 ⟨rfl, rfl⟩; clear HB)
  go_ret
  exact ⟨rfl, HB1.out⟩
theorem causalOrder_all (n : Int) (A : Option Addr) (m cap : Nat) (M : Mv) (p : Int) (w : World) (_ : (Lit.int .i64 n).wf = true) (hmc : m ≤ cap ∧ cap ≤ maxLen) (hr : Rd w w.heap.size A (m * 4) (mvF M)) (_ : (Lit.int .i64 p).wf = true) :
    Calls Try.prog 3 #[.int .i64 n, .slice A m cap, .int .i64 p] w fun e w' => e = .returned (.bool true) ∧ Below w.heap.size w w' := by
  cases hb : playedB n m
  · exact causalOrder_bad n m cap p A w (Nat.le_trans hmc.1 hmc.2) hb
  · obtain ⟨h1, h2, h3⟩ := playedB_iff.1 hb
    obtain ⟨n, rfl⟩ := Int.eq_ofNat_of_zero_le (show 0 ≤ n by omega)
    exact causalOrder_good n m cap p A M w hr (by omega) (by omega) (by omega)
end Go.Proofs.Ytiljnddjecbmfaa
