/- The walk of ring.Lead. -/
import Derived.Test.YtelenomccmnkfaaLead
set_option linter.unusedVariables false
set_option linter.unusedSimpArgs false
namespace Go.Proofs.Ytelenomccmnkfaa
open Go.RowKit Go.Maps Go.MapKept

def way0 (n : Nat) (f : Nat → Int) (b : Nat → Bool) (i : Nat) : Way := fun j => if decide (pm1 j n < i) && b (pm1 j n) then some (f (pm1 j n)) else none
theorem way0_no {n : Nat} {f : Nat → Int} {b : Nat → Bool} {i : Nat} (h : b i = false) : way0 n f b (i + 1) = way0 n f b i := by
  funext j
  unfold way0
  by_cases e : pm1 j n = i
  · rw [e, h]; simp
  · have : (decide (pm1 j n < i + 1)) = decide (pm1 j n < i) := by
      rw [Bool.eq_iff_iff, decide_eq_true_iff, decide_eq_true_iff]; omega
    rw [this]
theorem way0_yes {n : Nat} {f : Nat → Int} {b : Nat → Bool} {i : Nat} (hi : i < n) (h : b i = true) (j : Nat) (hj : j < n) : way0 n f b (i + 1) j = putO (way0 n f b i) (sc1 i n) (f i) j := by
  unfold putO
  by_cases e : j = sc1 i n
  · subst e
    rw [if_pos rfl]
    unfold way0
    rw [pm_sc hi, h]; simp
  · rw [if_neg e]
    have hne : pm1 j n ≠ i := fun e2 => e (by rw [← e2, sc_pm hj])
    unfold way0
    have : (decide (pm1 j n < i + 1)) = decide (pm1 j n < i) := by
      rw [Bool.eq_iff_iff, decide_eq_true_iff, decide_eq_true_iff]; omega
    rw [this]
theorem way0_all {n : Nat} {f : Nat → Int} {b : Nat → Bool} (j : Nat) (hj : j < n) : (RW n f b 0).1 j = way0 n f b n j := by
  show (if b (pm1 j n) = true then some (f (pm1 j n)) else none) = _
  unfold way0
  have := pm1_lt hj
  simp [this]
theorem way0_start (n : Nat) (f : Nat → Int) (b : Nat → Bool) (j : Nat) : way0 n f b 0 j = none := by
  unfold way0; simp
abbrev sentR (gs n cp : Nat) (s : Nat → Bool) : LRow := ⟨some ⟨gs, 0, none⟩, 4, 1, n, cp, fun i => .bool (s i)⟩
theorem step_mod {i n : Nat} (h : i < n) : ((i : Int) + 1) % (n : Int) = (sc1 i n : Nat) := by
  rw [show (i : Int) + 1 = ((i + 1 : Nat) : Int) by omega, ← Int.natCast_emod, sc1_eq h]
set_option maxRecDepth 100000 in
set_option maxHeartbeats 12800000 in
theorem lead_good (A1 A2 : Option Addr) (n cap1 cap2 B : Nat) (f : Nat → Int) (b : Nat → Bool) (w : World) (hR : RingOk f n) (hb : ∃ i, i < n ∧ b i = true) (hc1 : n ≤ cap1) (hm1 : cap1 ≤ maxLen) (hB : B ≤ w.heap.size) (hr1 : Rd w B A1 n (fun j => .int .i64 (f j))) (hr2 : Rd w B A2 n (fun j => .bool (b j))) :
    Calls Try.prog 11 #[.slice A1 n cap1, .slice A2 n cap2] w (Gives fun v w' => ∃ t p, p < n ∧ NoHome n f b t ∧ (RW n f b t).1 p = some (f p) ∧ v = .tuple #[.int .i64 (p : Nat), .int .i64 (tot n f b t : Nat), .int .i64 0] ∧ Below w.heap.size w w') := by
  have HRO := Lib.hid hR
  obtain ⟨hn1, hn12⟩ := hR.sz
  have HBG := Lib.hid hb
  have HC0 := Lib.hid (ringCode_zero.2 hR)
  have HANY : Hid (anyTo b n = true) := Lib.hid (anyTo_iff.2 (by obtain ⟨i, h1, h2⟩ := hb; exact ⟨i, h1, h2⟩))
  obtain ⟨g, hg, hmax⟩ := great_at (f := f) hn1
  have HRI := Lib.hid (rinv_all hR hg hmax hb)
  clear hR hb hmax
  have HM1 := Lib.hid hm1; clear hm1
  obtain ⟨ad1, rfl, hbl1, hcl1⟩ := hr1 (by omega)
  have HR1 : Hid (Rd w B (some ad1) n (fun j => .int .i64 (f j))) := Lib.hid fun _ => ⟨ad1, rfl, hbl1, hcl1⟩
  obtain ⟨ad2, rfl, hbl2, hcl2⟩ := hr2 (by omega)
  have HR2 : Hid (Rd w B (some ad2) n (fun j => .bool (b j))) := Lib.hid fun _ => ⟨ad2, rfl, hbl2, hcl2⟩
  clear hr1 hr2 hcl1 hcl2 hbl1 hbl2
  have hmm := @run_makeMap Try.prog
  go_enter Try.func11, Try.ntmps11
  go_wp2_with fail
  refine (int_is (ringWrong_any (some ad1) n cap1 B f w hc1 HM1.out HR1.out) HC0.out).mono ?_
  rintro e w1 ⟨rfl, rfl⟩
  go_wp2_with fail
  refine (contB_is true (some ad2) n cap2 B b w (by unfold maxLen; omega) HR2.out HANY.out).mono ?_
  rintro e w1 ⟨rfl, rfl⟩
  go_wp2_with fail
  refine (cloneB_any (some ad2) n cap2 B b w hn1 (by omega) hB HR2.out).mono ?_
  rintro e w1 ⟨v, rfl, gs, cp, rfl, hL⟩
  have HL1 := Lib.hid hL
  clear hL HC0 HANY
  have HM0 : Hid (LayM w (w1.alloc (.map #[] 0)) [sentR gs n cp b] [⟨w1.heap.size, WayM n (way0 n f b 0)⟩]) := Lib.hid (HL1.out.toM.newM _ ((WayM.empty n).congr fun j _ => way0_start n f b j) _ rfl)
  clear HL1
  go_wp2
  generalize w1.heap.size = bm0 at HM0 ⊢
  go_loopw [37] (fun v wr => ∃ i : Nat, i ≤ n ∧ v = .int .i64 i ∧ Hid (LayM w wr [sentR gs n cp b] [⟨bm0, WayM n (way0 n f b i)⟩])) (fun v _ => n - (intOf v).toNat)
  case atStart => exact ⟨0, by omega, rfl, HM0⟩
  case round =>
    clear HM0
    obtain ⟨i, hi, rfl, HM⟩ := hrel
    by_cases hlt : i < n
    · obtain ⟨ad, e1, _, hc⟩ := HR2.out (by omega)
      injection e1 with e1
      subst e1
      have hc2 : wr.cell? (ad2.add i) = some (.bool (b i)) := by
        obtain ⟨ad, e1, _, hc⟩ := (HR2.out.below (HM.out.lay.bel.mono hB)) (by omega)
        injection e1 with e1
        rw [e1]; exact hc i hlt
      have hc1 : wr.cell? (ad1.add i) = some (.int .i64 (f i)) := by
        obtain ⟨ad, e1, _, hc⟩ := (HR1.out.below (HM.out.lay.bel.mono hB)) (by omega)
        injection e1 with e1
        rw [e1]; exact hc i hlt
      clear hc
      cases hbi : b i
      · have HN : Hid (LayM w wr [sentR gs n cp b] [⟨bm0, WayM n (way0 n f b (i + 1))⟩]) := Lib.hid (by rw [way0_no hbi]; exact HM.out)
        rw [hbi] at hc2
        clear hbi
        go_wp2
        go_roundw
        case rel => exact ⟨i + 1, by omega, by go_num, HN⟩
        case measure => simp [intOf]; omega
      · obtain ⟨es, c, hput, hL⟩ := way_put HM.out.drew (sc1_lt hlt) hn12 (f i)
        rw [← step_mod hlt] at hput
        have HN := Lib.hid (hL.congrM fun es c h => h.congr fun j hj => way0_yes hlt hbi j hj)
        clear hL
        rw [hbi] at hc2
        clear hbi
        go_wp2
        refine wp_text 9 (by kernel_rfl) (by kernel_rfl) (by kernel_rfl) (by repeat' (first | (with_reducible apply tame_then) | (with_reducible apply tame_block) | (with_reducible apply tame_scope) | exact tame_gives | exact tame_body (fun _ _ h => ⟨_, h.1⟩))) ?_
        simp only [List.take_succ_cons, List.take_zero, List.drop_succ_cons, List.drop_zero]
        go_wp2
        refine headed ?_
        refine wpList_updE rfl (.tmp 43) (.tmp 47) (.tmp 51) _ rfl rfl rfl rfl hput ?_
        go_wp2
        go_roundw
        case rel => exact ⟨i + 1, by omega, by go_num, HN⟩
        case measure => simp [intOf]; omega
    · obtain rfl : i = n := by omega
      obtain ⟨es0, c0, hb0, hw0, -⟩ := HM.out.fixH
      have hsz0 := hw0.len
      have hcw : cw i (way0 i f b i) = tot i f b 0 := by
        show _ = sumN 1 _
        rw [sumN, sumN, Nat.zero_add]
        exact sumN_congr fun j hj => by rw [way0_all j hj]
      rw [hcw] at hsz0
      have hmt : Try.prog.underlying 41 = some (.map (Try.prog.mapKeyOf 41) (Try.prog.mapElemOf 41)) := by kernel_rfl
      have HQ0 : Hid (LayM w wr [sentR gs i cp (RW i f b 0).2] [⟨bm0, WayM i (RW i f b 0).1⟩]) := Lib.hid (HM.out.congrM fun es c h => h.congr fun j hj => way0_all j hj)
      clear hw0 hcw HM
      go_wp2_with (first
        | (at_len; refine wpList_lenE rfl (.tmp 53) _ rfl hmt rfl hb0 ?_; rw [hsz0])
        | fail)
      clear hb0 hsz0
      have hw1 : w.heap.size ≤ wr.heap.size := HQ0.out.size
      generalize wr = w2 at HQ0 hw1 ⊢
      go_loopw [10, 13] (fun mv yv wr => ∃ (t bm : Nat), mv = .map (some bm) ∧ yv = .int .i64 (tot i f b t : Nat) ∧ Hid (NoHome i f b t) ∧ Hid (LayM w wr [sentR gs i cp (RW i f b t).2] [⟨bm, WayM i (RW i f b t).1⟩])) (fun _ yv _ => 1000 - (intOf yv).toNat)
      case atStart => exact ⟨0, bm0, rfl, rfl, Lib.hid (fun k hk => absurd hk (by omega)), HQ0⟩
      case round =>
        clear HQ0
        obtain ⟨t, bm, rfl, rfl, HNO, HQ⟩ := hrel
        have hI := HRI.out t HNO.out
        obtain ⟨hl1, hl2⟩ := hI.live hn1
        have htot := tot_le i f b t
        have htb : tot i f b t ≤ 300 := Nat.le_trans htot (Nat.le_trans (Nat.mul_le_mul (show t + 1 ≤ 23 by omega) hn12) (by omega))
        clear hl1 hl2 htot hI
        obtain ⟨T, hT⟩ : ∃ T, tot i f b t = T := ⟨_, rfl⟩
        rw [hT] at htb ⊢
        have HTT := Lib.hid hT
        obtain ⟨wy, hwy⟩ : ∃ wy, (RW i f b t).1 = wy := ⟨_, rfl⟩
        obtain ⟨sy, hsy⟩ : ∃ sy, (RW i f b t).2 = sy := ⟨_, rfl⟩
        have HWY := Lib.hid hwy
        have HSY := Lib.hid hsy
        have HQ := HQ.out
        rw [hwy, hsy] at HQ
        have HQ := Lib.hid HQ
        clear hwy hsy hT
        obtain ⟨es, c, hbm, hwm, hf⟩ := HQ.out.fixH
        have HWM := Lib.hid hwm
        have hst : Stamped es c := by obtain ⟨l, h1, _⟩ := hwm; exact h1.1
        have hbm2 : (wr.alloc (.map #[] 0)).heap[bm]? = some (.map es c) := (Below.heap_alloc _ _ _ (Array.getElem?_eq_some_iff.1 hbm).1).trans hbm
        have HM0 := Lib.hid (hf.newM _ (WayM.empty i) _ rfl)
        have hzw := HQ.out.size
        clear hwm hf HQ hbm
        go_wp2_with (first
          | (at_range; refine wpList_rangeE rfl (.tmp 56) _ rfl Try.underlying41 rfl hbm2 ?_; intro w5 hw5 hrg5; have HR5 := Lib.hid hrg5; have HM5 : Hid (LayM w w5 _ _) := Lib.hid (by rw [hw5]; exact HM0.out.alloc _); clear hw5 hrg5)
          | fail)
        clear hbm2 HM0
        have hrz : w.heap.size ≤ (wr.alloc (.map #[] 0)).heap.size := by simp; omega
        generalize (wr.alloc (.map #[] 0)).heap.size = r at HR5 hrz ⊢
        generalize wr.heap.size = nb at HM5 hzw ⊢
        try go_frame
        go_loopw [] (fun wr2 => ∃ (seen : Array Nat) (wc : Way) (sc : Nat → Bool), Hid (Rng wr2 bm r es c seen) ∧ Hid (PRel i f sy wy (SeenK keyN es seen) wc sc) ∧ Hid (∀ j, j < i → SeenK keyN es seen j → wy j ≠ some (f j)) ∧ Hid (LayM w wr2 [sentR gs i cp sc] [⟨nb, WayM i wc⟩, ⟨bm, fun e' c' => e' = es ∧ c' = c⟩])) (fun wr2 => wr2.rangeLeft bm r)
        case atStart => exact ⟨#[], fun _ => none, _, HR5, Lib.hid (PRel.start i f _ _ fun j => seenK_none keyN es j), Lib.hid (fun j _ h => absurd h (seenK_none keyN es j)), HM5⟩
        case round =>
          clear HR5 HM5
          obtain ⟨seen, wc, sc, HR3, HP, HNH, HM⟩ := hrel
          obtain ⟨w6, rfl⟩ : ∃ w6, w6 = wr := ⟨_, rfl⟩
          go_wp2_with (first
            | (at_next; refine wpList_nextE rfl (.tmp 57) rfl rfl HR3.out hst ?_ ?_)
            | fail)
          · intro h0'
            have h0 : (leftOf es seen).size = 0 := by simpa using h0'
            have hall : ∀ j, j < i → wy j ≠ none → SeenK keyN es seen j := fun j hj hw => seenK_all h0 (HWM.out.has hj hw)
            obtain ⟨hf1, hf2⟩ := PRel.fin (b := b) (t := t) (by rw [HWY.out, HSY.out]; exact HP.out) (by rw [HWY.out]; exact hall)
            have HNO2 : Hid (NoHome i f b (t + 1)) := Lib.hid fun k hk j hj => by
              by_cases e : k = t
              · subst e
                rw [HWY.out]
                intro hw
                exact HNH.out j hj (hall j hj (by rw [hw]; simp)) hw
              · exact HNO.out k (by omega) j hj
            have hQ2 : LayM w w6 [sentR gs i cp (RW i f b (t + 1)).2] [⟨nb, WayM i (RW i f b (t + 1)).1⟩] :=
              (HM.out.first'.congrM fun es c h => h.congr hf1).congr 0 (fun j => .bool ((RW i f b (t + 1)).2 j)) rfl (fun j hj => by show Value.bool (sc j) = _; rw [hf2 j (by simpa using hj)])
            obtain ⟨es2, c2, hb2, hw2, -⟩ := hQ2.fixH
            have hsz2 := hw2.len
            have HQ2 := Lib.hid hQ2
            have htn := tot_next i f b t
            rw [HTT.out] at htn
            have HTN := Lib.hid htn
            have hl3 := ((HRI.out (t + 1) HNO2.out).live hn1).1
            have hcn := cw_le i (RW i f b (t + 1)).1
            generalize cw i (RW i f b (t + 1)).1 = cn at hl3 hcn HTN hsz2
            clear htn
            clear h0 h0' hall hf1 hf2 hQ2 hw2 HM HP HNH HR3
            go_wp2_with (first
              | (at_len; refine wpList_lenE rfl (.tmp 96) _ rfl hmt rfl hb2 ?_; rw [hsz2])
              | fail)
            go_roundw
            case rel => exact ⟨t + 1, nb, rfl, by rw [HTN.out]; go_num, HNO2, HQ2⟩
            case measure => simp [intOf]; omega
          · intro e w7 hem' hns hrg hlt hgr hsz hen
            have hem : e ∈ es.toList := by simpa using hem'
            obtain ⟨j, y, hj, hwj, hk, hv⟩ := HWM.out.mem hem
            have HR6 := Lib.hid hrg
            have HM6 := Lib.hid (HM.out.turned hgr HR3.out hrz)
            have HLQ : Hid (w6.rangeLeft bm r = (leftOf es seen).size) := Lib.hid HR3.out.left_eq
            have HLT2 := Lib.hid hlt
            have hSP := fun a' => seenK_push (seen := seen) keyN_inj hst hem hk a'
            have hnd : ¬ SeenK keyN es seen j := fun ⟨x, hx, hkx, hsx⟩ => by
              obtain ⟨l, h1, _⟩ := HWM.out
              have hn : (es.toList.map (·.key)).Nodup := h1.1.2.2
              have : x = e := by
                obtain ⟨q1, hq1⟩ := List.getElem?_of_mem hx
                obtain ⟨q2, hq2⟩ := List.getElem?_of_mem hem
                have e1 : (es.toList.map (·.key))[q1]? = some (keyN j) := by rw [List.getElem?_map, hq1]; simp [hkx]
                have e2 : (es.toList.map (·.key))[q2]? = some (keyN j) := by rw [List.getElem?_map, hq2]; simp [hk]
                have := (List.getElem?_inj (List.getElem?_eq_some_iff.1 e1).1 hn).1 (e1.trans e2.symm)
                subst this
                rw [hq1] at hq2
                exact Option.some.inj hq2
              subst this
              exact absurd hsx (by simpa using hns)
            obtain ⟨hp1, hp2⟩ := (HP.out j hj).2 hnd
            have hc1 : w7.cell? (ad1.add j) = some (.int .i64 (f j)) := by
              obtain ⟨ad, e1, _, hc⟩ := (HR1.out.below (HM6.out.lay.bel.mono hB)) (by omega)
              injection e1 with e1
              rw [e1]; exact hc j hj
            have hcs : w7.cell? ⟨gs, j, none⟩ = some (.bool (sy j)) := by
              rw [← hp2]
              exact HM6.out.lay.cell1 0 rfl hj
            have hfz := HM6.out.lay.frz 0 rfl (by omega) j
            rw [hv, hk] at hen ⊢
            unfold keyN at hen ⊢
            have HSE : Hid (seen.push e.born = seen.push e.born) := Lib.hid rfl
            have HSP := Lib.hid hSP
            have HND := Lib.hid hnd
            have HWJ := Lib.hid hwj
            clear hrg hgr hns hlt hk hem hem' HM HR3 hv hSP hnd hwj
            generalize seen.push e.born = seen2 at *
            have HNH2 : y ≠ f j → Hid (∀ k, k < i → SeenK keyN es seen2 k → wy k ≠ some (f k)) := fun hne => Lib.hid fun k hk hs => by
              rcases (HSP.out k).1 hs with h1 | h1
              · exact HNH.out k hk h1
              · subst h1
                rw [HWJ.out]
                exact fun e => hne (Option.some.inj e)
            rcases Int.lt_trichotomy y (f j) with hlt | heq | hgt
            · have e1 : (y == f j) = false := by rw [beq_eq_false_iff_ne]; omega
              have HN2 := HNH2 (by omega)
              clear HNH2
              cases hsj : sy j
              · rw [hsj] at hcs
                have HM7 := Lib.hid (HM6.out.upd 0 (mk := Value.bool) true rfl hj)
                have HPS := Lib.hid (HP.out.some (sc' := upd sc j true) (y := f j) hj HWJ.out HSP.out HND.out (by unfold outR; rw [HWJ.out]; simp [hlt, hsj]) (by rw [upd_same]; unfold stepS; rw [HWJ.out]; simp [hlt]) (fun k hk => upd_ne _ _ hk))
                have HR7 := Lib.hid (HR6.out.cell hcs (.bool true))
                obtain ⟨es3, c3, hput, hL⟩ := way_put HM7.out (sc1_lt hj) hn12 (f j)
                obtain ⟨_, es4, c4, hm4, -⟩ := HM7.out.map 0 _ rfl
                have hne := HM7.out.ap 0 1 _ _ (by omega) rfl rfl
                have HR8 := Lib.hid (HR7.out.put hm4 hne (.map es3 c3))
                rw [← step_mod hj] at hput
                have HL := Lib.hid hL
                clear hL hm4 hne HM7 HR7 HM6 HR6 hsj hp1 hp2
                go_wp2_with (first
                  | (at_mapUpdate; refine wpList_updE rfl (.tmp 88) (.tmp 92) (.tmp 93) _ rfl rfl rfl rfl hput ?_)
                  | fail)
                go_roundw
                case rel => first | exact ⟨seen2, HR8, _, _, HPS, HN2, HL⟩ | exact ⟨seen2, _, _, HR8, HPS, HN2, HL⟩
                case measure => rw [HR8.out.left_eq, HLQ.out]; exact HLT2.out
              · rw [hsj] at hcs
                have HPS := Lib.hid (HP.out.none hj HWJ.out HSP.out HND.out hlt hsj)
                clear hsj hp1 hp2
                go_wp2
                go_roundw
                case rel => first | exact ⟨seen2, HR6, _, _, HPS, HN2, HM6⟩ | exact ⟨seen2, _, _, HR6, HPS, HN2, HM6⟩
                case measure => rw [HR6.out.left_eq, HLQ.out]; exact HLT2.out
            · have HH := Lib.hid ((congrFun HWY.out j).trans (HWJ.out.trans (congrArg some heq)))
              have e1 : (y == f j) = true := by rw [beq_iff_eq]; exact heq
              have HBL := Lib.hid HM6.out.lay.bel
              clear HNH2 heq
              go_wp2
              exact bodyPost_ret (v := .tuple #[.int .i64 (j : Nat), .int .i64 (T : Nat), .int .i64 0]) (by simp [results, Try.results11, go_sem]) rfl ⟨_, rfl, t, j, hj, HNO.out, HH.out, by rw [HTT.out], HBL.out⟩
            · have e1 : (y == f j) = false := by rw [beq_eq_false_iff_ne]; omega
              have e2 : ¬ y < f j := by omega
              have HN2 := HNH2 (by omega)
              clear HNH2
              have HPS := Lib.hid (HP.out.some (sc' := sc) (y := y) hj HWJ.out HSP.out HND.out (by unfold outR; rw [HWJ.out]; simp [e2]) (by rw [hp2]; unfold stepS; rw [HWJ.out]; simp; intro h; exact absurd h (by omega)) (fun k hk => rfl))
              obtain ⟨es3, c3, hput, hL⟩ := way_put HM6.out (sc1_lt hj) hn12 y
              obtain ⟨_, es4, c4, hm4, -⟩ := HM6.out.map 0 _ rfl
              have hne := HM6.out.ap 0 1 _ _ (by omega) rfl rfl
              have HR8 := Lib.hid (HR6.out.put hm4 hne (.map es3 c3))
              rw [← step_mod hj] at hput
              have HL := Lib.hid hL
              clear hL hm4 hne HM6 HR6 hp1 hp2
              go_wp2_with (first
                | (at_mapUpdate; refine wpList_updE rfl (.tmp 88) (.tmp 92) (.tmp 93) _ rfl rfl rfl rfl hput ?_)
                | fail)
              go_roundw
              case rel => first | exact ⟨seen2, HR8, _, _, HPS, HN2, HL⟩ | exact ⟨seen2, _, _, HR8, HPS, HN2, HL⟩
              case measure => rw [HR8.out.left_eq, HLQ.out]; exact HLT2.out
end Go.Proofs.Ytelenomccmnkfaa
