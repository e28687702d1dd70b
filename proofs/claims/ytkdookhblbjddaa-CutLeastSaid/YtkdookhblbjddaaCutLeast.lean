/- The law CutLeast, walked. -/
import Derived.Test.YtkdookhblbjddaaVectorAhead
set_option linter.unusedVariables false
set_option linter.unusedSimpArgs false
namespace Go.Proofs.Ytkdookhblbjddaa
open Go.RowKit

theorem vec_cut {n : Nat} {E : Ev} {len i : Nat} (hg : runCode n E len = 0) (hi : i < len) : CutOk n E len (fun t => (vecV E i t : Int)) n ∧ WholeC E (fun t => (vecV E i t : Int)) len := by
  obtain ⟨hp, _⟩ := run_pos hg
  refine ⟨⟨rfl, fun q _ => ⟨by dsimp only; omega, by have := vec_le' hp hi q; dsimp only; omega⟩⟩, fun x hx hc a ha => ?_⟩
  have hal := ha.lt
  unfold inC at hc ⊢
  rw [decide_eq_true_iff] at hc ⊢
  have h1 : cntP E (E.p x) x < vecV E i (E.p x).toNat := by dsimp only at hc; omega
  have h2 := (vec_iff hp hx hi).2 h1
  have h3 : a = i ∨ Hb E a i := by
    rcases h2 with rfl | h2
    · exact .inr ha
    · exact .inr (ha.trans h2)
  have h4 := (vec_iff hp (show a < len by omega) hi).1 h3
  dsimp only
  omega
theorem cut_least {n : Nat} {E : Ev} {len i p : Nat} {c : Nat → Int} (hg : runCode n E len = 0) (hi : i < len) (hp : E.p i = p) (hc : CutOk n E len c n) (hw : WholeC E c len) (hin : (cntP E p i : Int) + 1 ≤ c p) : ∀ t, t < n → (vecV E i t : Int) ≤ c t := by
  obtain ⟨hpos, _⟩ := run_pos hg
  have hic : inC E c i = true := by
    unfold inC
    rw [decide_eq_true_iff, hp, Int.toNat_natCast]
    omega
  intro t ht
  apply Int.not_lt.1
  intro hlt
  have h0 := (hc.2 t ht).1
  have hct : (c t).toNat < vecV E i t := by omega
  obtain ⟨e, he, hpe, hce⟩ := cntP_at E t (Nat.lt_of_lt_of_le hct (vec_le' hpos hi t))
  have h1 := (vec_iff hpos he hi).2 (by rw [hpe, Int.toNat_natCast, hce]; exact hct)
  have h2 : inC E c e = true := by
    rcases h1 with rfl | h1
    · exact hic
    · exact hw i hi hic e h1
  unfold inC at h2
  rw [decide_eq_true_iff, hpe, Int.toNat_natCast, hce] at h2
  omega
theorem least_bad (n i : Int) (A : Option Addr) (len cap B : Nat) (E : Ev) (w : World) (hm : len ≤ maxLen) (hB : B ≤ w.heap.size) (hr : Rd w B A (len * 3) (evF E)) (hbad : runCode n E len ≠ 0) :
    Calls Try.prog 28 #[.int .i64 n, .slice A len cap, .int .i64 i] w fun e w' => e = .returned (.tuple #[.slice none 0 0, .int .i64 (runCode n E len)]) ∧ Below w.heap.size w w' := by
  have H := Lib.hid (vectors_bad n A len cap B E w hm hB hr hbad)
  have hb2 : (runCode n E len != 0) = true := bne_iff_ne.2 hbad
  clear hbad hr
  go_enter Try.func28, Try.ntmps28
  go_wp2_with fail
  refine H.out.mono ?_
  rintro e w1 ⟨rfl, hb⟩
  have HB := Lib.hid hb; clear hb
  go_wp2
  go_ret2
  exact ⟨rfl, HB.out⟩
set_option maxHeartbeats 800000 in
theorem least_out (n : Nat) (i : Int) (A : Option Addr) (len cap : Nat) (E : Ev) (w : World) (hr : Rd w w.heap.size A (len * 3) (evF E)) (hg : runCode n E len = 0) (hi : ¬ (0 ≤ i ∧ i < len)) :
    Calls Try.prog 28 #[.int .i64 (n : Nat), .slice A len cap, .int .i64 i] w fun e w' => e = .returned (.tuple #[.slice none 0 0, .int .i64 4]) ∧ Below w.heap.size w w' := by
  have H := Lib.hid (vectors_good n A len cap E w hr hg)
  have h30 := (runCode_ok hg).1.2.2
  clear hr hg
  go_enter Try.func28, Try.ntmps28
  go_wp2_with fail
  refine H.out.mono ?_
  rintro e w1 ⟨v, rfl, u, rfl, VR, Ao, co, oF, rfl, hL, hV⟩
  have HB := Lib.hid hL.bel
  clear hL hV
  rcases (by omega : i < 0 ∨ (0 ≤ i ∧ (len : Int) ≤ i)) with h | ⟨h, h2⟩
  all_goals
    clear hi
    go_wp2
    go_ret2
    exact ⟨rfl, HB.out⟩
set_option maxHeartbeats 800000 in
theorem least_good (n i : Nat) (A : Option Addr) (len cap : Nat) (E : Ev) (w : World) (hr : Rd w w.heap.size A (len * 3) (evF E)) (hg : runCode n E len = 0) (hi : i < len) :
    Calls Try.prog 28 #[.int .i64 (n : Nat), .slice A len cap, .int .i64 (i : Nat)] w (Gives fun v w' => ∃ g cg, v = .tuple #[.slice (some ⟨g, 0, none⟩) n cg, .int .i64 0] ∧ Rd w' w'.heap.size (some ⟨g, 0, none⟩) n (numV fun t => (vecV E i t : Int)) ∧ g < w'.heap.size ∧ Below w.heap.size w w') := by
  have H := Lib.hid (vectors_good n A len cap E w hr hg)
  obtain ⟨⟨n1, _, h30⟩, _⟩ := runCode_ok hg
  clear hr hg
  go_enter Try.func28, Try.ntmps28
  go_wp2_with fail
  refine H.out.mono ?_
  rintro e w1 ⟨v, rfl, u, rfl, VR, Ao, co, oF, rfl, hL, hV⟩
  obtain ⟨k1, g1, c1, hk1, hv1⟩ := hV i hi
  obtain ⟨go, rfl, -⟩ := (hL.own 0 _ rfl).pos (by show 0 < len; omega)
  have e1 := hL.cell1 0 rfl hi
  rw [hv1] at e1
  have hgo := (hL.at_ 0 rfl).2
  have HRD := Lib.hid (hL.rd1 (k1 + 1) hk1)
  have HLT := Lib.hid (hL.at_ (k1 + 1) hk1).2
  have HB := Lib.hid hL.bel
  clear hL hV hk1 hv1
  go_wp2
  go_ret2
  exact ⟨_, rfl, g1, c1, rfl, HRD.out, HLT.out, HB.out⟩

set_option maxHeartbeats 1000000 in
theorem cutLeast_no (n i : Int) (A : Option Addr) (len cap : Nat) (E : Ev) (A2 : Option Addr) (m cap2 : Nat) (w : World) (hlc : len ≤ cap) (hm : len ≤ maxLen) (hr : Rd w w.heap.size A (len * 3) (evF E)) (hno : runCode n E len ≠ 0 ∨ ¬ (0 ≤ i ∧ i < len)) :
    Calls Try.prog 13 #[.int .i64 n, .slice A len cap, .int .i64 i, .slice A2 m cap2] w fun e w' => e = .returned (.bool true) ∧ Below w.heap.size w w' := by
  have H3 := Lib.hid (fun (W : World) (hb : Below w.heap.size w W) => ran_any n A len cap w.heap.size E W hlc hm hb.size (hr.below hb))
  have HL : ∃ c : Int, c ≠ 0 ∧ Calls Try.prog 28 #[.int .i64 n, .slice A len cap, .int .i64 i] w fun e w' => e = .returned (.tuple #[.slice none 0 0, .int .i64 c]) ∧ Below w.heap.size w w' := by
    by_cases hg : runCode n E len = 0
    · obtain ⟨k, rfl⟩ := Int.eq_ofNat_of_zero_le (by have := (runCode_ok hg).1.1; omega : 0 ≤ n)
      exact ⟨4, by omega, least_out k i A len cap E w hr hg (hno.resolve_left fun h => h hg)⟩
    · exact ⟨_, hg, least_bad n i A len cap w.heap.size E w hm (Nat.le_refl _) hr hg⟩
  obtain ⟨c, hc, hl⟩ := HL
  have HCL := Lib.hid hl
  have hc2 : (c != 0) = true := bne_iff_ne.2 hc
  have HNO := Lib.hid hno
  clear hl hc hr hno
  go_enter Try.func13, Try.ntmps13
  go_wp2_with fail
  refine HCL.out.mono ?_
  rintro e w1 ⟨rfl, hb⟩
  have HB := Lib.hid hb; clear hb
  cases hg : (runCode n E len == 0)
  · have HG := Lib.hid hg
    clear hg
    go_wp2_with fail
    refine (bool_is_b (H3.out w1 HB.out) HG.out).mono ?_
    rintro e w2 ⟨rfl, hb⟩
    have HB2 := Lib.hid (HB.out.trans (hb.mono HB.out.size)); clear hb
    go_wp2
    go_ret
    exact ⟨rfl, HB2.out⟩
  · have HG := Lib.hid hg
    have HI : Hid ((decide (0 ≤ i) && decide (i < (len : Int))) = false) := Lib.hid (by
      rw [← Bool.not_eq_true, Bool.and_eq_true, decide_eq_true_iff, decide_eq_true_iff]
      exact HNO.out.resolve_left fun h => h (by simpa using hg))
    clear hg
    go_wp2_with fail
    refine (bool_is_b (H3.out w1 HB.out) HG.out).mono ?_
    rintro e w2 ⟨rfl, hb⟩
    have HB2 := Lib.hid (HB.out.trans (hb.mono HB.out.size)); clear hb
    go_wp2_with fail
    refine (inside1 false len i w2 _ _ rfl HI.out).mono ?_
    rintro e w3 ⟨rfl, rfl⟩
    go_wp2
    go_ret
    exact ⟨rfl, HB2.out.alloc HB2.out.size _⟩
set_option maxRecDepth 100000 in
set_option maxHeartbeats 2000000 in
theorem cutLeast_good (n i : Nat) (A : Option Addr) (len cap : Nat) (E : Ev) (A2 : Option Addr) (m cap2 : Nat) (c : Nat → Int) (w : World) (hlc : len ≤ cap) (hm : len ≤ maxLen) (hm2 : m ≤ maxLen) (hr : Rd w w.heap.size A (len * 3) (evF E)) (hr2 : Rd w w.heap.size A2 m (numV c)) (hg : runCode n E len = 0) (hi : i < len) :
    Calls Try.prog 13 #[.int .i64 (n : Nat), .slice A len cap, .int .i64 (i : Nat), .slice A2 m cap2] w fun e w' => e = .returned (.bool true) ∧ Below w.heap.size w w' := by
  obtain ⟨⟨n1, n6, h30⟩, _⟩ := runCode_ok hg
  have H1 := Lib.hid (least_good n i A len cap E w hr hg hi)
  have H3 := Lib.hid (fun (W : World) (hb : Below w.heap.size w W) => bool_is_b (ran_any n A len cap w.heap.size E W hlc hm hb.size (hr.below hb)) (show (runCode n E len == 0) = true by rw [hg]; rfl))
  obtain ⟨hvc, hvw⟩ := vec_cut hg hi
  have HIM : Hid (∀ (W : World) (g cg : Nat), Below w.heap.size w W → Rd W W.heap.size (some ⟨g, 0, none⟩) n (numV fun t => (vecV E i t : Int)) →
      Calls Try.prog 27 #[.int .i64 (n : Nat), .slice A len cap, .slice (some ⟨g, 0, none⟩) n cg] W (Gives fun v w' => v = .tuple #[.bool true, .int .i64 0] ∧ Below W.heap.size W w')) := Lib.hid (by
    show ∀ W, _
    intro W g cg hb3 hr3
    refine (is_any n A len cap W.heap.size E _ n cg _ W hm (by unfold maxLen; omega) (Nat.le_refl _) ((hr.below hb3).more hb3.size) hr3).mono ?_
    rintro e w' ⟨v, rfl, x, y, rfl, h, hb4⟩
    obtain rfl : y = 0 := h.2.1.2 ⟨n, rfl, hg, hvc⟩
    obtain rfl : x = true := (h.2.2 rfl).2 hvw
    exact ⟨_, rfl, rfl, hb4⟩)
  have HIC := Lib.hid (fun (W : World) (hb : Below w.heap.size w W) => is_any n A len cap w.heap.size E A2 m cap2 c W hm hm2 hb.size (hr.below hb) (hr2.below hb))
  obtain ⟨p, hp, hpn⟩ := ev_proc hg hi
  have HP := Lib.hid hp
  have HLE := Lib.hid (fun (hc : CutOk n E len c n) (hw : WholeC E c len) (h : (cntP E p i : Int) + 1 ≤ c p) => cut_least hg hi hp hc hw h)
  have HOWN := Lib.hid (vec_own' (run_pos hg).1 hi hp)
  have HPR : Hid (∀ x, x < len → ∃ q : Nat, E.p x = q ∧ q < n) := Lib.hid fun x hx => ev_proc hg hx
  have HR := Lib.hid hr
  have HR2 := Lib.hid hr2
  clear hg hr hm hr2 hm2 hvc hvw hp
  go_enter Try.func13, Try.ntmps13
  go_wp2_with fail
  refine H1.out.mono ?_
  rintro e w1 ⟨v, rfl, g, cg, rfl, hrd, hgl, hb⟩
  have HB1 := Lib.hid hb
  have HV1 := Lib.hid hrd
  clear hb hrd H1
  go_wp2_with fail
  refine (H3.out w1 HB1.out).mono ?_
  rintro e w2 ⟨rfl, hb⟩
  have HB2 := Lib.hid (HB1.out.trans (hb.mono HB1.out.size))
  have HV2 := Lib.hid ((HV1.out.below hb).more hb.size); clear hb HV1
  go_wp2_with fail
  refine (inside1 true len i w2 _ _ rfl (by simp; omega)).mono ?_
  rintro e w3 ⟨rfl, rfl⟩
  have HB3 := Lib.hid (HB2.out.alloc HB2.out.size (.cells #[.int .i64 (i : Nat)] 3))
  have HV3 := Lib.hid ((HV2.out.below ((Below.refl _ _).alloc (Nat.le_refl _) (.cells #[.int .i64 (i : Nat)] 3))).more (by simp : w2.heap.size ≤ (w2.alloc (.cells #[.int .i64 (i : Nat)] 3)).heap.size))
  generalize w2.alloc (.cells #[.int .i64 (i : Nat)] 3) = w3 at HB3 HV3 ⊢
  clear HV2
  go_wp2_with fail
  refine (HIM.out w3 g cg HB3.out HV3.out).mono ?_
  rintro e w4 ⟨v, rfl, rfl, hb⟩
  have HB4 := Lib.hid (HB3.out.trans (hb.mono HB3.out.size))
  have HV4 := Lib.hid ((HV3.out.below hb).more hb.size); clear hb HV3
  go_wp2_with fail
  refine (HIC.out w4 HB4.out).mono ?_
  rintro e w5 ⟨v, rfl, x, y, rfl, hx, hb⟩
  have HB5 := Lib.hid (HB4.out.trans (hb.mono HB4.out.size))
  have HV5 := Lib.hid ((HV4.out.below hb).more hb.size); clear hb HV4
  have HX := Lib.hid hx
  clear hx
  by_cases hy : y = 0
  · subst hy
    obtain ⟨n', e, _, hc⟩ := HX.out.2.1.1 rfl
    obtain rfl := Int.ofNat_inj.1 e
    obtain rfl := hc.1
    have HCK := Lib.hid hc
    clear hc e
    cases x
    · go_wp2
      go_ret
      exact ⟨rfl, HB5.out⟩
    · have HWC := Lib.hid ((HX.out.2.2 rfl).1 rfl)
      go_wp2
      go_loopw [15, 16] (fun o y wr => ∃ k : Nat, k ≤ i + 1 ∧ y = .int .i64 k ∧ o = .int .i64 (cntP E p k : Nat) ∧ Hid (Below w5.heap.size w5 wr)) (fun _ y _ => i + 1 - (intOf y).toNat)
      case atStart => exact ⟨0, by omega, rfl, rfl, Below.refl _ _⟩
      case round =>
        obtain ⟨k, hk, rfl, rfl, HBr⟩ := hrel
        have HB6 := Lib.hid (HB5.out.trans (HBr.out.mono HB5.out.size))
        obtain ⟨ad, rfl, hbl, p0, -, -⟩ := (HR.out.below HB6.out).rec3 hi
        rw [HP.out] at p0
        have hcl := cntP_le E p k
        by_cases hlt : k ≤ i
        · obtain ⟨ad2, h2, -, q0, -, -⟩ := (HR.out.below HB6.out).rec3 (show k < len by omega)
          obtain rfl : ad = ad2 := by injection h2
          clear h2
          obtain ⟨q, hq, hqn⟩ := HPR.out k (by omega)
          rw [hq] at q0
          have HST : Hid (cntP E p (k + 1) = cntP E p k + if (q : Int) = (p : Int) then 1 else 0) := Lib.hid (by rw [cntP, hq])
          have hkl : k < len := by omega
          clear hq
          obtain ⟨d, hd⟩ : ∃ d, ((q : Int) == (p : Int)) = d := ⟨_, rfl⟩
          cases d
          · have HN : Hid (cntP E p (k + 1) = cntP E p k) := Lib.hid (by rw [HST.out, if_neg (by simpa using hd)]; rfl)
            go_wp2
            refine wp_text_all (by kernel_rfl) (by kernel_rfl) (by kernel_rfl) (by repeat' (first | (with_reducible apply tame_then) | (with_reducible apply tame_block) | (with_reducible apply tame_scope) | exact tame_gives | exact tame_body (fun _ _ h => ⟨_, h.1⟩))) ?_
            go_wp2
            refine headed ?_
            go_wp2
            go_roundw
            case rel => exact ⟨k + 1, by omega, by go_num, by rw [HN.out], Lib.hid HBr.out.drew⟩
            case measure => simp [intOf]; omega
          · have HN : Hid (cntP E p (k + 1) = cntP E p k + 1) := Lib.hid (by rw [HST.out, if_pos (by simpa using hd)])
            go_wp2
            refine wp_text_all (by kernel_rfl) (by kernel_rfl) (by kernel_rfl) (by repeat' (first | (with_reducible apply tame_then) | (with_reducible apply tame_block) | (with_reducible apply tame_scope) | exact tame_gives | exact tame_body (fun _ _ h => ⟨_, h.1⟩))) ?_
            go_wp2
            refine headed ?_
            go_wp2
            go_roundw
            case rel => exact ⟨k + 1, by omega, by go_num, by rw [HN.out]; go_num, Lib.hid HBr.out.drew⟩
            case measure => simp [intOf]; omega
        · obtain rfl : k = i + 1 := by omega
          have hown : cntP E p (i + 1) = cntP E p i + 1 := cntP_own HP.out
          rw [hown] at hcl ⊢
          have HOW : Hid (vecV E i p = cntP E p i + 1) := HOWN
          have HLX := Lib.hid (fun h => HLE.out HCK.out HWC.out h)
          obtain ⟨ac, rfl, hac, hcc⟩ := HR2.out (by omega)
          have HCC : Hid (∀ W, Below w.heap.size w W → ∀ t, t < m → W.cell? (ac.add t) = some (.int .i64 (c t))) := Lib.hid fun W hb t ht => (hb.cell (by rw [addr_block]; exact hac)).trans (hcc t ht)
          have c0 := HCC.out wr HB6.out p hpn
          have hgw : g < wr.heap.size := by
            obtain ⟨ad', e', h', _⟩ := HV5.out (by omega)
            cases e'
            have := HBr.out.size
            simp at h'; omega
          have HVR : Hid (∀ t, t < m → wr.cell? ⟨g, t, none⟩ = some (.int .i64 (vecV E i t : Nat))) := Lib.hid fun t ht => by
            obtain ⟨ad', e', _, h'⟩ := HV5.out (by omega)
            injection e' with e'
            subst e'
            have h1 := h' t ht
            have h2 : (⟨g, 0, none⟩ : Addr).add t = ⟨g, t, none⟩ := by unfold Addr.add; split <;> simp_all
            rw [h2] at h1
            refine (HBr.out.cell ?_).trans h1
            have := HBr.out.size
            have hgl5 : g < w5.heap.size := by
              have := World.block_lt_of_cell? w5 _ h1
              exact this
            exact hgl5
          have v0 := HVR.out p hpn
          rw [HOW.out] at v0
          clear hcc hown
          generalize cntP E p i = z at *
          by_cases hin : c p < (z : Int) + 1
          · go_wp2
            go_ret
            exact ⟨rfl, HB6.out⟩
          · have HLY := Lib.hid (HLX.out (by omega))
            go_wp2
            obtain ⟨w6, rfl⟩ : ∃ w6, w6 = wr := ⟨_, rfl⟩
            go_loopw [17] (fun y w7 => ∃ t : Nat, t ≤ m ∧ y = .int .i64 t ∧ Hid (Sim w6 w7)) (fun y _ => m - (intOf y).toNat)
            case atStart => exact ⟨0, by omega, rfl, Lib.hid ⟨rfl, rfl, rfl, rfl⟩⟩
            case round =>
              obtain ⟨t, ht, rfl, HSM⟩ := hrel
              by_cases hlt2 : t < m
              · have c1 := (cell_sim HSM.out _).trans (HCC.out w6 HB6.out t hlt2)
                have v1 := (cell_sim HSM.out _).trans (HVR.out t hlt2)
                have hle := HLY.out t hlt2
                go_wp2
                refine wp_text_all (by kernel_rfl) (by kernel_rfl) (by kernel_rfl) (by repeat' (first | (with_reducible apply tame_then) | (with_reducible apply tame_block) | (with_reducible apply tame_scope) | exact tame_gives | exact tame_body (fun _ _ h => ⟨_, h.1⟩))) ?_
                go_wp2
                refine headed ?_
                go_wp2
                go_roundw
                case rel => exact ⟨t + 1, by omega, by go_num, Lib.hid ⟨HSM.out.1, HSM.out.2.1, HSM.out.2.2.1, HSM.out.2.2.2⟩⟩
                case measure => simp [intOf]; omega
              · obtain rfl : t = m := by omega
                have v2 := (cell_sim HSM.out _).trans v0
                have p1 := (cell_sim HSM.out _).trans p0
                have HB8 : Hid (Below w.heap.size w wr) := Lib.hid (below_sim HB6.out HSM.out)
                clear v0 p0 c0
                go_wp2
                go_ret
                exact ⟨rfl, HB8.out⟩
  · have hy2 : (y != 0) = true := bne_iff_ne.2 hy
    clear hy
    go_wp2
    go_ret
    exact ⟨rfl, HB5.out⟩
theorem cutLeast_all (n : Int) (A : Option Addr) (len cap : Nat) (E : Ev) (i : Int) (A2 : Option Addr) (m cap2 : Nat) (c : Nat → Int) (w : World) (_ : (Lit.int .i64 n).wf = true) (hmc : len ≤ cap ∧ cap ≤ maxLen) (hr : Rd w w.heap.size A (len * 3) (evF E))
    (_ : (Lit.int .i64 i).wf = true) (hm2 : m ≤ cap2 ∧ cap2 ≤ maxLen) (_ : ∀ j, j < m → (Lit.int .i64 (c j)).wf = true) (hr2 : Rd w w.heap.size A2 m (numV c)) :
    Calls Try.prog 13 #[.int .i64 n, .slice A len cap, .int .i64 i, .slice A2 m cap2] w fun e w' => e = .returned (.bool true) ∧ Below w.heap.size w w' := by
  by_cases h : runCode n E len ≠ 0 ∨ ¬ (0 ≤ i ∧ i < len)
  · exact cutLeast_no n i A len cap E A2 m cap2 w hmc.1 (by omega) hr h
  · have hg : runCode n E len = 0 := Classical.byContradiction fun h' => h (.inl h')
    have hi : 0 ≤ i ∧ i < len := Classical.byContradiction fun h' => h (.inr h')
    obtain ⟨k, rfl⟩ := Int.eq_ofNat_of_zero_le (by have := (runCode_ok hg).1.1; omega : 0 ≤ n)
    obtain ⟨i, rfl⟩ := Int.eq_ofNat_of_zero_le hi.1
    exact cutLeast_good k i A len cap E A2 m cap2 c w hmc.1 (by omega) (by omega) hr hr2 hg (by omega)
end Go.Proofs.Ytkdookhblbjddaa
