/- The walks of ring.half, Half, Halves. -/
import Derived.Test.YtelenomccmnkfaaRing1
set_option linter.unusedVariables false
set_option linter.unusedSimpArgs false
namespace Go.Proofs.Ytelenomccmnkfaa
open Go.RowKit

theorem infoInt : (Try.prog.info? 3).map (fun i => (i.zero, i.size, i.bytes)) = some (some (.int .i64 0), 1, 8) := by kernel_rfl
theorem gd_app (l : List Int) (x : Int) {j : Nat} (h : j < l.length) : gd (l ++ [x]) j = gd l j := by
  unfold gd
  rw [List.getD_eq_getElem?_getD, List.getD_eq_getElem?_getD, List.getElem?_append_left h]
theorem gd_end (l : List Int) (x : Int) : gd (l ++ [x]) l.length = x := by
  unfold gd
  rw [List.getD_eq_getElem?_getD, List.getElem?_append_right (Nat.le_refl _)]
  simp
/-- A row that is grown: in memory. -/
structure RL (w wr : World) (A : Option Addr) (l : List Int) (cap : Nat) : Prop where
  own : Own wr w.heap.size 3 1 A l.length cap (fun j => .int .i64 (gd l j))
  bel : Below w.heap.size w wr
theorem RL.sim {w wr w2 : World} {A : Option Addr} {l : List Int} {cap : Nat} (h : RL w wr A l cap) (e : Sim wr w2) : RL w w2 A l cap := ⟨h.own.sim e, below_sim h.bel e⟩
theorem RL.app {w wr w2 : World} {A A2 : Option Addr} {l : List Int} {cap cap2 m : Nat} {x : Int} {o : Obj} (h : RL w wr A l cap) (hm : m = l.length + 1) (hg : (wr.alloc o).grownBy w2 (ablock A)) (ho : Own w2 w.heap.size 3 1 A2 m cap2 (fun j => .int .i64 (gd (l ++ [x]) j))) : RL w w2 A2 (l ++ [x]) cap2 := by
  refine ⟨by rw [List.length_append, List.length_singleton, ← hm]; exact ho, ?_⟩
  exact (h.bel.alloc h.bel.size o).grown hg (by have := h.bel.size; simp; omega) (fun k hk => (h.own.lt k hk).1)

set_option maxRecDepth 100000 in
set_option maxHeartbeats 3200000 in
theorem half_any (A : Option Addr) (n cap B : Nat) (f : Nat → Int) (w : World) (hB : B ≤ w.heap.size) (h3 : 3 ≤ n) (h12 : n ≤ 12) (hr : Rd w B A n (fun j => .int .i64 (f j))) :
    Calls Try.prog 15 #[.slice A n cap] w (Gives fun v w' => ∃ A' cap', v = .slice A' (halfTo f n n).length cap' ∧ RL w w' A' (halfTo f n n) cap') := by
  obtain ⟨ad, hA, _, _⟩ := hr (by omega)
  subst hA
  have HR := Lib.hid hr; clear hr
  obtain ⟨i0, hi0, hz0, hz1, hz2⟩ := info_parts infoInt
  go_enter Try.func15, Try.ntmps15
  go_wp2
  go_loopw [4, 13] (fun o i wr => ∃ (k : Nat) (A' : Option Addr) (cap' : Nat), k ≤ n ∧ i = .int .i64 k ∧ o = .slice A' (halfTo f n k).length cap' ∧ Hid (RL w wr A' (halfTo f n k) cap') ∧ (halfTo f n k).length ≤ k) (fun _ i _ => n - (intOf i).toNat)
  case atStart => exact ⟨0, none, 0, by omega, rfl, rfl, ⟨Own.nil_ _ _ _ _ _, Below.refl _ _⟩, Nat.le_refl _⟩
  case round =>
    obtain ⟨k, A', cap', hk, rfl, rfl, HL, hlen⟩ := hrel
    by_cases hlt : k < n
    · obtain ⟨ad', e, _, hc⟩ := (HR.out.below (HL.out.bel.mono hB)) (by omega)
      obtain rfl : ad = ad' := by injection e
      clear e
      have e1 : ((k : Int) + n - 1) % n = (pm1 k n : Nat) := by rw [show (k : Int) + n - 1 = ((k + n - 1 : Nat) : Int) by omega, ← Int.natCast_emod, pm1_eq hlt]
      have e2 : ((k : Int) + n - 2) % n = (pm2 k n : Nat) := by rw [show (k : Int) + n - 2 = ((k + n - 2 : Nat) : Int) by omega, ← Int.natCast_emod, pm2_eq hlt (by omega)]
      have HE1 := Lib.hid e1
      have HE2 := Lib.hid e2
      clear e1 e2
      have a1 : 0 ≤ ((k : Int) + n - 1) % n := by rw [HE1.out]; omega
      have a2 : ((k : Int) + n - 1) % n < n := by rw [HE1.out]; have := pm1_lt hlt; omega
      have b1 : 0 ≤ ((k : Int) + n - 2) % n := by rw [HE2.out]; omega
      have b2 : ((k : Int) + n - 2) % n < n := by rw [HE2.out]; have := pm2_lt hlt (by omega); omega
      have c1 : wr.cell? (ad.add ((k + n - 1) % n)) = some (.int .i64 (f (pm1 k n))) := by rw [pm1_eq hlt]; exact hc _ (pm1_lt hlt)
      have c2 : wr.cell? (ad.add ((k + n - 2) % n)) = some (.int .i64 (f (pm2 k n))) := by rw [pm2_eq hlt (by omega)]; exact hc _ (pm2_lt hlt (by omega))
      have c3 := hc k hlt
      clear hc
      cases hs : stayB f n k
      · have HN := Lib.hid (show halfTo f n (k + 1) = halfTo f n k by rw [halfTo, hs]; rfl)
        have hno : ¬ (f (pm2 k n) < f (pm1 k n)) ∨ ¬ (f k < f (pm1 k n)) := by
          unfold stayB at hs
          rw [Bool.and_eq_false_iff, decide_eq_false_iff_not, decide_eq_false_iff_not] at hs
          exact hs
        clear hs
        rcases hno with hno | hno
        all_goals
          go_wp2
          refine wp_text_all (by kernel_rfl) (by kernel_rfl) (by kernel_rfl) (by repeat' (first | (with_reducible apply tame_then) | (with_reducible apply tame_block) | (with_reducible apply tame_scope) | exact tame_gives | exact tame_body (fun _ _ h => ⟨_, h.1⟩))) ?_
          go_wp2
          refine headed ?_
          go_wp2
          all_goals
            go_roundw
            case rel => exact ⟨k + 1, A', cap', by omega, by go_num, by rw [HN.out], by rw [HN.out]; exact HL.out.sim ⟨rfl, rfl, rfl, rfl⟩, by rw [HN.out]; omega⟩
            case measure => simp [intOf]; omega
      · have HN := Lib.hid (show halfTo f n (k + 1) = halfTo f n k ++ [f (pm1 k n)] by rw [halfTo, if_pos hs])
        have hyes : f (pm2 k n) < f (pm1 k n) ∧ f k < f (pm1 k n) := by simpa [stayB] using hs
        obtain ⟨hy1, hy2⟩ := hyes
        clear hs
        have hz := HL.out.bel.size
        go_wp2
        refine wp_text_all (by kernel_rfl) (by kernel_rfl) (by kernel_rfl) (by repeat' (first | (with_reducible apply tame_then) | (with_reducible apply tame_block) | (with_reducible apply tame_scope) | exact tame_gives | exact tame_body (fun _ _ h => ⟨_, h.1⟩))) ?_
        go_wp2
        refine headed ?_
        go_wp2_with (at_builtin; refine wpList_ap1 rfl (.tmp 46) (.tmp 48) _ rfl 3 i0 _ 8 Try.underlying22 hi0 hz0 hz1 hz2 rfl w.heap.size rfl (HL.out.own.sim ⟨rfl, rfl, rfl, rfl⟩ |>.alloc _) rfl (cell_new _ _ _ _ _ rfl (one_cell _)) (fun _ _ => rfl) (fun i => .int .i64 (gd (halfTo f n k ++ [f (pm1 k n)]) i)) (fun j hj => by rw [gd_app _ _ hj]) (one_at (F := fun j => Value.int .i64 (gd _ (_ + j)) = _) (by rw [Nat.add_zero, gd_end])) ((halfTo f n k).length + 1) rfl (by unfold maxLen; omega) (by omega) (by simp; omega) ?_; intro A2 cap2 w2 ho2 hg2 ha2)
        have HL2 : Hid (RL w w2 A2 (halfTo f n k ++ [f (pm1 k n)]) cap2) := RL.app HL.out rfl (grown_sim hg2 ⟨rfl, rfl, rfl, rfl⟩) ho2
        clear ho2 hg2 ha2
        go_roundw
        case rel => exact ⟨k + 1, A2, cap2, by omega, by go_num, by rw [HN.out, List.length_append, List.length_singleton], by rw [HN.out]; exact HL2, by rw [HN.out, List.length_append, List.length_singleton]; omega⟩
        case measure => simp [intOf]; omega
    · obtain rfl : k = n := by omega
      go_wp2
      go_ret
      exact ⟨_, rfl, A', cap', rfl, HL.out⟩

set_option maxRecDepth 100000 in
set_option maxHeartbeats 1600000 in
theorem Half_any (A : Option Addr) (n cap B : Nat) (f : Nat → Int) (w : World) (hB : B ≤ w.heap.size) (hnc : n ≤ cap) (hm : cap ≤ maxLen) (hr : Rd w B A n (fun j => .int .i64 (f j))) (hok : RingOk f n) :
    Calls Try.prog 7 #[.slice A n cap] w (Gives fun v w' => ∃ A' cap', v = .tuple #[.slice A' (hf f n).length cap', .int .i64 0] ∧ RL w w' A' (hf f n) cap') := by
  have h1 := hok.sz
  have HC := Lib.hid (ringCode_zero.2 hok)
  have HR := Lib.hid hr; clear hr hok
  have HM := Lib.hid hm
  have hm' := hm
  unfold maxLen at hm'
  clear hm
  by_cases h3 : n < 3
  · have HF := Lib.hid (show hf f n = [maxTo f n] by unfold hf; rw [if_pos h3])
    go_enter Try.func7, Try.ntmps7
    go_wp2_with fail
    refine (ringWrong_any A n cap B f w hnc HM.out HR.out).mono ?_
    rintro e w1 ⟨rfl, rfl⟩
    rw [HC.out]
    go_wp2_with fail
    refine (maxI_any A n cap B f w (by omega) (by have := HM.out; omega) HR.out).mono ?_
    rintro e w1 ⟨rfl, rfl⟩
    go_wp2
    go_ret2
    refine ⟨_, rfl, some ⟨w.heap.size, 0, none⟩, 1, by rw [HF.out]; rfl, ?_⟩
    rw [HF.out]
    refine ⟨Own.made w w.heap.size 3 1 1 #[_] (fun j => .int .i64 (gd [maxTo f n] j)) w.heap.size rfl (Nat.le_refl _) rfl (by unfold maxLen; omega) (fun j hj => ?_), (Below.refl _ _).alloc (Nat.le_refl _) _⟩
    obtain rfl : j = 0 := by omega
    rfl
  · have HF := Lib.hid (show hf f n = halfTo f n n by unfold hf; rw [if_neg h3])
    go_enter Try.func7, Try.ntmps7
    go_wp2_with fail
    refine (ringWrong_any A n cap B f w hnc HM.out HR.out).mono ?_
    rintro e w1 ⟨rfl, rfl⟩
    rw [HC.out]
    go_wp2_with fail
    refine (half_any A n cap B f w hB (by omega) (by omega) HR.out).mono ?_
    rintro e w1 ⟨v, rfl, A', cap', rfl, hl⟩
    have HL := Lib.hid hl
    clear hl
    go_wp2
    go_ret2
    exact ⟨_, rfl, A', cap', by rw [HF.out]; rfl, by rw [HF.out]; exact HL.out⟩
set_option maxHeartbeats 800000 in
theorem Half_bad (A : Option Addr) (n cap B : Nat) (f : Nat → Int) (w : World) (hnc : n ≤ cap) (hm : cap ≤ maxLen) (hr : Rd w B A n (fun j => .int .i64 (f j))) (hok : ringCode f n ≠ 0) :
    Calls Try.prog 7 #[.slice A n cap] w fun e w' => e = .returned (.tuple #[.slice none 0 0, .int .i64 (ringCode f n)]) ∧ w = w' := by
  have HR := Lib.hid hr; clear hr
  have HM := Lib.hid hm; clear hm
  have hb : (ringCode f n != 0) = true := bne_iff_ne.2 hok
  clear hok
  go_enter Try.func7, Try.ntmps7
  go_wp2_with fail
  refine (ringWrong_any A n cap B f w hnc HM.out HR.out).mono ?_
  rintro e w1 ⟨rfl, rfl⟩
  go_wp2
  go_ret2
  exact ⟨rfl, rfl⟩

set_option maxRecDepth 100000 in
set_option maxHeartbeats 1600000 in
theorem Halves_any (A : Option Addr) (n cap B : Nat) (f : Nat → Int) (w : World) (hB : B ≤ w.heap.size) (hnc : n ≤ cap) (hm : cap ≤ maxLen) (hr : Rd w B A n (fun j => .int .i64 (f j))) (hok : RingOk f n) :
    Calls Try.prog 10 #[.slice A n cap] w (Gives fun v w' => ∃ k : Nat, v = .tuple #[.int .i64 k, .int .i64 0] ∧ 2 ^ k ≤ n ∧ (k = 0 → n = 1) ∧ Below w.heap.size w w') := by
  have HC := Lib.hid (ringCode_zero.2 hok)
  have HO := Lib.hid hok
  have HR := Lib.hid hr; clear hr hok
  have HM := Lib.hid hm; clear hm
  go_enter Try.func10, Try.ntmps10
  go_wp2_with fail
  refine (ringWrong_any A n cap B f w hnc HM.out HR.out).mono ?_
  rintro e w1 ⟨rfl, rfl⟩
  rw [HC.out]
  go_wp2
  go_loopw [0, 5] (fun x i wr => ∃ (k : Nat) (A' : Option Addr) (m cap' : Nat) (g : Nat → Int), i = .int .i64 k ∧ x = .slice A' m cap' ∧ m ≤ 12 ∧ k ≤ 12 ∧ m ≤ cap' ∧ Hid (cap' ≤ maxLen ∧ RingOk g m ∧ Rd wr wr.heap.size A' m (fun j => .int .i64 (g j)) ∧ 2 ^ k * m ≤ n ∧ (k = 0 → m = n) ∧ Below w.heap.size w wr)) (fun x _ _ => match x with | .slice _ m _ => m | _ => 0)
  case atStart => exact ⟨0, A, n, cap, f, rfl, rfl, HO.out.sz.2, by omega, hnc, HM.out, HO.out, HR.out.more hB, by omega, fun _ => rfl, Below.refl _ _⟩
  case round =>
    obtain ⟨k, A', m, cap', g, rfl, rfl, hm12, hk12, hmc, HQ⟩ := hrel
    by_cases hlt : 1 < m
    · go_wp2_with fail
      refine (Half_any A' m cap' wr.heap.size g wr (Nat.le_refl _) hmc HQ.out.1 HQ.out.2.2.1 HQ.out.2.1).mono ?_
      rintro e w2 ⟨v, rfl, A2, cap2, rfl, hl⟩
      have hh := hf_ok HQ.out.2.1
      obtain ⟨l, hlE⟩ : ∃ l, hf g m = l := ⟨_, rfl⟩
      rw [hlE] at hl hh ⊢
      have HL := Lib.hid hl
      have HH := Lib.hid hh
      have hless := hh.less hlt
      have hsz := hh.ok.sz
      have hcc := hl.own.le
      clear hl hh hlE
      have hpow : 2 ^ (k + 1) * l.length ≤ n := by
        have h1 := HQ.out.2.2.2.1
        have h2 : 2 ^ k * (2 * l.length) ≤ 2 ^ k * m := Nat.mul_le_mul_left _ hless
        rw [Nat.pow_succ, Nat.mul_assoc]
        omega
      have hk : k + 1 ≤ 12 := by
        have h3 : 2 ^ (k + 1) ≤ 12 := by
          have := Nat.le_mul_of_pos_right (2 ^ (k + 1)) (show 0 < l.length by omega)
          have := HO.out.sz.2
          omega
        have := Nat.lt_two_pow_self (n := k + 1)
        omega
      have HPW := Lib.hid hpow
      clear hpow
      go_wp2
      go_roundw
      case rel => exact ⟨k + 1, A2, l.length, cap2, gd l, by go_num, rfl, by omega, hk, hcc.1, hcc.2, HH.out.ok, HL.out.own.rd1, HPW.out, by omega, HQ.out.2.2.2.2.2.trans (HL.out.bel.mono HQ.out.2.2.2.2.2.size)⟩
      case measure => show l.length < m; omega
    · have hm1 : m = 1 := by have := HQ.out.2.1.sz; omega
      subst hm1
      go_wp2
      go_ret2
      exact ⟨_, rfl, k, rfl, by have := HQ.out.2.2.2.1; omega, fun h => (HQ.out.2.2.2.2.1 h).symm, HQ.out.2.2.2.2.2⟩
set_option maxHeartbeats 800000 in
theorem Halves_bad (A : Option Addr) (n cap B : Nat) (f : Nat → Int) (w : World) (hnc : n ≤ cap) (hm : cap ≤ maxLen) (hr : Rd w B A n (fun j => .int .i64 (f j))) (hok : ringCode f n ≠ 0) :
    Calls Try.prog 10 #[.slice A n cap] w fun e w' => e = .returned (.tuple #[.int .i64 0, .int .i64 (ringCode f n)]) ∧ w = w' := by
  have HR := Lib.hid hr; clear hr
  have HM := Lib.hid hm; clear hm
  have hb : (ringCode f n != 0) = true := bne_iff_ne.2 hok
  clear hok
  go_enter Try.func10, Try.ntmps10
  go_wp2_with fail
  refine (ringWrong_any A n cap B f w hnc HM.out HR.out).mono ?_
  rintro e w1 ⟨rfl, rfl⟩
  go_wp2
  go_ret2
  exact ⟨rfl, rfl⟩
end Go.Proofs.Ytelenomccmnkfaa
