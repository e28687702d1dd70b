/- The walk of flood.Play. -/
import Derived.Test.YteocheaihbifaaaFl1
import Derived.Test.YteocheaihbifaaaRepW
import Derived.Test.YteocheaihbifaaaShr
import Derived.Deep.CutRange
import Derived.Deep.CutBlock
set_option linter.unusedVariables false
set_option linter.unusedSimpArgs false
namespace Go.Proofs.Yteocheaihbifaaa
open Go.RowKit

theorem andNot_pow {a i : Nat} (ha : a < 4294967296) (hi : i < 32) : bits .andNot .u32 (a : Int) (2 ^ i % 4294967296) = ((less a i : Nat) : Int) := by
  rw [pow_mod hi, u32_andNot_nat a _ ha (pow_lt32 hi)]
  have : 4294967295 - 2 ^ i = (2 ^ 32 - 1) ^^^ 2 ^ i := Nat.eq_of_testBit_eq fun j => by
    have e : 4294967295 - 2 ^ i = 2 ^ 32 - (2 ^ i + 1) := by omega
    rw [e, Nat.testBit_two_pow_sub_succ (pow_lt32 hi), Nat.testBit_xor, Nat.testBit_two_pow_sub_one]
    by_cases hj : j < 32
    · simp [hj]
    · have : i ≠ j := by omega
      simp [hj, this]
  unfold less
  rw [this]
theorem infoW : (Try.prog.info? 24).map (fun i => (i.zero, i.size, i.bytes)) = some (some (.int .u32 0), 1, 4) := by kernel_rfl
theorem infoI : (Try.prog.info? 3).map (fun i => (i.zero, i.size, i.bytes)) = some (some (.int .i64 0), 1, 8) := by kernel_rfl
abbrev wrd (f : Nat → Nat) : Nat → Value := fun i => .int .u32 (f i : Nat)

set_option maxHeartbeats 400000 in
theorem clone_any (g n cap : Nat) (f : Nat → Nat) (w : World) (hn : 1 ≤ n ∧ n ≤ 6) (hr : Rd w w.heap.size (some ⟨g, 0, none⟩) n (wrd f)) :
    Calls Try.prog 13 #[.slice (some ⟨g, 0, none⟩) n cap] w (Gives fun v w' => ∃ gx cap', v = .slice (some ⟨gx, 0, none⟩) n cap' ∧ Lay w w' [lst (some ⟨gx, 0, none⟩) 24 n cap' (wrd f)]) := by
  obtain ⟨hn1, hn6⟩ := hn
  have HR := Lib.hid hr; clear hr
  obtain ⟨iI, hiI, hzI0, hzI1, hzI2⟩ := info_parts infoW
  have hnil : ∀ W, (binOp .eql 37 (.slice (some ⟨g, 0, none⟩) n cap) (.slice none 0 0)).run Try.prog W = .ok (.bool false) W := fun W => rfl
  go_enter Try.func13, Try.ntmps13
  go_wp2_with (at_builtin; refine wpList_ap1 rfl (.tmp 5) (.tmp 6) _ rfl 24 iI _ 4 Try.underlying37 hiI hzI0 hzI1 hzI2 rfl w.heap.size rfl (Own.empty w _ _ _ (wrd f) _ rfl (Nat.le_refl _)) rfl (HR.out.alloc (Nat.le_refl _) _) (fun _ _ => rfl) (wrd f) (fun j hj => absurd hj (by omega)) (fun j hj => by rw [Nat.zero_add]) n (by omega) (by unfold maxLen; omega) (by omega) (by simp) ?_
               intro A' cap' w2 ho hg he
               have HO := Lib.hid ho
               have HG := Lib.hid hg
               have HE := Lib.hid he
               clear ho hg he)
  go_ret
  obtain ⟨gx, rfl, _⟩ := HO.out.pos1 (show 0 < n by omega)
  have hL := ((Lay.nil w).new #[] 24 1 0 (wrd f) _ rfl rfl (by unfold maxLen; omega) (fun j hj => absurd hj (by omega)))
  exact ⟨_, rfl, gx, cap', rfl, hL.app 0 rfl HO.out HG.out HE.out⟩

theorem crs_code {c : Crs} (hc : c.Ok) : crCode c.n c.m (c.R : Int) (fun i => (c.p i : Nat)) (fun i => (c.r i : Nat)) c.q = 0 := by
  have h1 := hc.n1; have h2 := hc.n6; have h3 := hc.r8
  refine crCode_0 ⟨⟨h1, h2⟩, by omega, by omega⟩ (fun i hi => ?_) (fun i hi => ?_) (fun i hi => anyTo_no.2 fun j hj => ?_)
  · have := hc.p i hi; simp only [crP]; exact decide_eq_false (by omega)
  · have := hc.r i hi; have := hc.q i hi; simp only [crR]; exact decide_eq_false (by omega)
  · have h := hc.one i j hi hj; rw [beq_eq_false_iff_ne]; intro e; exact h (Int.ofNat.inj e).symm

/-- Numbers below n words. -/
theorem w32 {a n : Nat} (hn : n ≤ 6) (h : a < 2 ^ n) : a < 4294967296 := Nat.lt_of_lt_of_le h (Nat.le_trans (Nat.pow_le_pow_right (by omega) hn) (by decide))
theorem all_at {n : Nat} (h1 : 1 ≤ n) (hn : n ≤ 6) : (((2 : Int) ^ n % 4294967296 - 1) % 4294967296) = ((allW n : Nat) : Int) := by
  have : n = 1 ∨ n = 2 ∨ n = 3 ∨ n = 4 ∨ n = 5 ∨ n = 6 := by omega
  rcases this with rfl | rfl | rfl | rfl | rfl | rfl <;> decide

theorem RI.lay {w w' : World} {v z : Value} {n : Nat} (h : RI w w' w.heap.size 24 v z n n) (hn : n ≤ 6) : Lay w w' [arr w.heap.size 24 n (fun _ => v)] := by
  refine ⟨fun k r hk => ?_, fun i j r s hij hi hj => ?_, h.bel⟩
  · rcases k with _ | k
    · have : arr w.heap.size 24 n (fun _ => v) = r := by simpa using hk
      subst this; exact h.own hn
    · simp at hk
  · rcases i with _ | i
    · rcases j with _ | j
      · exact absurd rfl hij
      · simp at hj
    · simp at hi
theorem imin (a b : Int) : (if b < a then b else a) = min a b := by omega
theorem bit_off {P i : Nat} (hP : P < 4294967296) : (bits .and .u32 ((P : Int) / 2 ^ i) 1 == 0) = !P.testBit i := by
  rw [bit_num hP]; cases P.testBit i <;> rfl

set_option maxRecDepth 100000 in
set_option maxHeartbeats 3200000 in
theorem play_good (A0 : Option Addr) (cap0 B0 : Nat) (v : Nat → Int) (A : Option Addr) (cap B : Nat) (c : Crs) (hc : c.Ok) (w : World) (hcap : c.m ≤ cap ∧ cap ≤ maxLen) (hB0 : B0 ≤ w.heap.size) (hB : B ≤ w.heap.size)
    (hv : Rd w B0 A0 c.n (fun i => .int .i64 (v i))) (hr : Rd w B A (c.m * 3) (crF (fun i => (c.p i : Nat)) (fun i => (c.r i : Nat)) (fun i => (c.q i : Nat)))) :
    Calls Try.prog 6 #[.slice A0 c.n cap0, .slice A c.m cap, .int .i64 c.R] w
      (Gives fun u w' => ∃ g, u = .tuple #[.slice (some ⟨g, 0, none⟩) c.n c.n, .int .u32 ((kn c c.R).2 : Nat), .int .i64 0] ∧ Lay w w' [arr g 3 c.n (fun i => .int .i64 (outF c v i))]) := by
  obtain ⟨av, rfl, hvb, hvc⟩ := hv (by have := hc.n1; omega)
  have HV : Hid (∀ W, Below w.heap.size w W → ∀ i, i < c.n → W.cell? (av.add i) = some (.int .i64 (v i))) := fun W hb i hi => (hb.cell (by rw [addr_block]; omega)).trans (hvc i hi)
  clear hv hB0 hvb hvc
  have HR := Lib.hid (hr.more hB); clear hr hB
  have HC := Lib.hid hc
  have hn1 := hc.n1; have hn6 := hc.n6; have hR8 := hc.r8
  have hAll := all_at hn1 hn6
  have hcm := hc.m_le
  have HWR := Lib.hid (wrong_any (some av) c.n cap0 A c.m cap w.heap.size c.R (fun i => (c.p i : Nat)) (fun i => (c.r i : Nat)) c.q w hcap (Nat.le_refl _) (by unfold maxLen; omega) HR.out)
  have HCC := Lib.hid (crs_code hc)
  clear hc hcap
  obtain ⟨iW, hiW, hzW0, hzW1, hzW2⟩ := info_parts infoW
  obtain ⟨iI, hiI, hzI0, hzI1, hzI2⟩ := info_parts infoI
  go_enter Try.func6, Try.ntmps6
  go_wp2_with fail
  refine (int_is_b HWR.out HCC.out).mono ?_
  rintro e w1 ⟨rfl, hw1⟩
  have HL1 := Lib.hid ((Lay.nil w).keep hw1); clear hw1 HWR HCC
  go_wp2_with (first
    | (at_make; refine wpList_mk1 rfl (.tmp 42) (.tmp 42) _ rfl 24 iW _ 4 Try.underlying37 hiW hzW0 hzW1 hzW2 rfl .i64 .i64 c.n rfl rfl (by omega) (by unfold maxLen; omega) w.heap.size _ rfl HL1.out.size ?_
       intro w2 ho2 he2
       have HL2 : Hid (Lay w w2 [arr w1.heap.size 24 c.n (wrd fun _ => 0)]) := by rw [he2]; exact HL1.out.make (.int .u32 0) rfl c.n (by unfold maxLen; omega) _ _ (fun _ _ => rfl) _ rfl
       clear ho2 he2)
    | fail)
  generalize w1.heap.size = gk at HL2 ⊢
  clear HL1
  go_loopw [46] (fun i wr => ∃ j : Nat, j ≤ c.n ∧ i = .int .i64 j ∧ Hid (Lay w wr [arr gk 24 c.n (wrd fun i => if i < j then 2 ^ i else 0)])) (fun i _ => c.n - (intOf i).toNat)
  case atStart => exact ⟨0, by omega, rfl, HL2.out⟩
  case round =>
    clear HL2
    obtain ⟨j, hj, rfl, HL⟩ := hrel
    by_cases hlt : j < c.n
    · have hp := pow_mod (show j < 32 by omega)
      have hck := HL.out.cell1 0 rfl hlt
      have hf := HL.out.frz 0 rfl (by omega) j
      go_wp2
      go_roundw
      case rel =>
        refine ⟨j + 1, by omega, by go_num, ?_⟩
        rw [show ((2 : Int) ^ j) = ((2 ^ j : Nat) : Int) by push_cast; rfl]
        refine (HL.out.upd (mk := fun x : Nat => Value.int .u32 (x : Nat)) 0 (2 ^ j) rfl hlt).congr 0 _ rfl ?_
        intro t _
        show Value.int .u32 ((upd (fun i => if i < j then 2 ^ i else 0) j (2 ^ j) t : Nat) : Int) = Value.int .u32 ((if t < j + 1 then 2 ^ t else 0 : Nat) : Int)
        rw [upd_apply]
        by_cases e : t = j
        · subst e; simp
        · by_cases e2 : t < j
          · simp [e, e2, Nat.lt_succ_of_lt e2]
          · simp [e, e2, show ¬ t < j + 1 by omega]
      case measure => simp [intOf]; omega
    · obtain rfl : j = c.n := by omega
      have HL3 : Hid (Lay w wr [lst (some ⟨gk, 0, none⟩) 24 c.n c.n (wrd (kn c 0).1)]) :=
        HL.out.congr 0 _ rfl (fun t ht => by
          have ht : t < c.n * 1 := ht
          show Value.int .u32 ((if t < c.n then 2 ^ t else 0 : Nat) : Int) = Value.int .u32 ((2 ^ t : Nat) : Int)
          rw [if_pos (by omega)])
      clear HL
      go_wp2
      go_loopw [15, 13, 12] (fun i K T wr => ∃ (k : Nat) (gk ck : Nat), k ≤ c.R ∧ i = .int .i64 ((k + 1 : Nat) : Int) ∧ K = .slice (some ⟨gk, 0, none⟩) c.n ck ∧ T = .int .u32 ((kn c k).2 : Nat) ∧ Hid (Lay w wr [lst (some ⟨gk, 0, none⟩) 24 c.n ck (wrd (kn c k).1)])) (fun i _ _ _ => c.R + 1 - (intOf i).toNat)
      case atStart => exact ⟨0, gk, c.n, by omega, rfl, rfl, rfl, HL3.out⟩
      case round =>
        clear HL3 hAll
        obtain ⟨k, gk, ck, hk, rfl, rfl, rfl, HK⟩ := hrel
        have hT := w32 hn6 (kn_there_lt (c := c) k)
        by_cases hlt : k + 1 ≤ c.R
        · have hk1 : ((k + 1 : Nat) : Int) ≤ c.R := by omega
          have HS : Hid (kn c (k + 1) = (nxt c (k + 1) (kn c k).1 (kn c k).2, lft c (k + 1) (kn c k).2)) := rfl
          obtain ⟨K, hK⟩ : ∃ K, K = (kn c k).1 := ⟨_, rfl⟩
          obtain ⟨T, hTT⟩ : ∃ T, T = (kn c k).2 := ⟨_, rfl⟩
          have HKl : Hid (∀ i, i < c.n → K i < 2 ^ c.n) := by show ∀ i, _; rw [hK]; exact fun i hi => kn_lt k i hi
          rw [← hK, ← hTT] at HS
          rw [← hK] at HK
          rw [← hTT] at hT ⊢
          clear hK hTT
          go_wp2_with fail
          refine (repW_any (allW c.n : Nat) c.n hn1 hn6 _ 1 _ (by simp) (by omega)).mono ?_
          rintro e w2 ⟨u, rfl, rfl, hri⟩
          have HL5 : Hid (Lay w w2 [arr _ 24 c.n (wrd (rchF c (k + 1) 0)), lst (some ⟨gk, 0, none⟩) 24 c.n ck (wrd K)]) := (HK.out.alloc _).join (hri.lay hn6)
          clear hri HK
          simp only [size_push] at HL5 ⊢
          generalize wr.heap.size + 1 = gr at HL5 ⊢
          go_wp2
          go_loopw [67, 17] (fun j L wr => ∃ q : Nat, q ≤ c.m ∧ j = .int .i64 q ∧ L = .int .u32 (lftF c (k + 1) T q : Nat) ∧ Hid (Lay w wr [arr gr 24 c.n (wrd (rchF c (k + 1) q)), lst (some ⟨gk, 0, none⟩) 24 c.n ck (wrd K)])) (fun j _ _ => c.m - (intOf j).toNat)
          case atStart => exact ⟨0, by omega, rfl, rfl, HL5.out⟩
          case round =>
            clear HL5
            obtain ⟨q, hq, rfl, rfl, HQ⟩ := hrel
            by_cases hlt : q < c.m
            · obtain ⟨ad, rfl, _, c0, c1, c2⟩ := (HR.out.below HQ.out.bel).crs hlt
              have hg := (HQ.out.at_ 0 rfl).2
              by_cases e : c.r q = k + 1
              · have hp := HC.out.p q hlt
                have hre : ((c.r q : Int) == (k : Int) + 1) = true := by simp [e]
                have hcr := HQ.out.cell1 0 rfl hp
                have hfr := HQ.out.frz 0 rfl (by omega) (c.p q)
                have han := andNot_pow (Nat.lt_of_le_of_lt (lftF_le c (k + 1) T q) hT) (show c.p q < 32 by omega)
                have HN : Hid (lftF c (k + 1) T (q + 1) = less (lftF c (k + 1) T q) (c.p q)) := if_pos e
                have HN2 : Hid (rchF c (k + 1) (q + 1) = upd (rchF c (k + 1) q) (c.p q) (c.q q)) := if_pos e
                have HA : Hid (∀ o, Lay w (wr.alloc o) _) := fun o => HQ.out.alloc o
                go_wp2
                go_roundw
                case rel => exact ⟨q + 1, by omega, by go_num, by rw [HN.out], by rw [HN2.out]; exact (HQ.out.upd (mk := fun x : Nat => Value.int .u32 (x : Nat)) 0 (c.q q) rfl hp).alloc _⟩
                case measure => simp [intOf]; omega
              · have hre : ((c.r q : Int) == (k : Int) + 1) = false := by rw [beq_eq_false_iff_ne]; omega
                have HN : Hid (lftF c (k + 1) T (q + 1) = lftF c (k + 1) T q) := if_neg e
                have HN2 : Hid (rchF c (k + 1) (q + 1) = rchF c (k + 1) q) := if_neg e
                have HA : Hid (∀ o, Lay w (wr.alloc o) _) := fun o => HQ.out.alloc o
                go_wp2
                go_roundw
                case rel => exact ⟨q + 1, by omega, by go_num, by rw [HN.out], by rw [HN2.out]; exact HA.out _⟩
                case measure => simp [intOf]; omega
            · obtain rfl : q = c.m := by omega
              go_wp2_with fail
              refine (clone_any gk c.n ck K _ ⟨hn1, hn6⟩ (HQ.out.rd1 1 rfl)).mono ?_
              rintro e w4 ⟨u, rfl, gx, cx, rfl, hl4⟩
              have HL6 : Hid (Lay w w4 [lst (some ⟨gx, 0, none⟩) 24 c.n cx (wrd (orT K T (rch c (k + 1)) 0)), arr gr 24 c.n (wrd (rch c (k + 1))), lst (some ⟨gk, 0, none⟩) 24 c.n ck (wrd K)]) := HQ.out.join hl4
              have HTT : Hid (lftF c (k + 1) T c.m = lft c (k + 1) T) := rfl
              have HRl : Hid (∀ j, j < c.n → rch c (k + 1) j < 2 ^ c.n) := fun j hj => rchF_lt HC.out (k + 1) j c.m (Nat.le_refl _)
              have HSx : Hid (kn c (k + 1) = (orT K T (rch c (k + 1)) c.n, lft c (k + 1) T)) := HS.out
              clear HQ hl4 HS
              rw [HTT.out]
              generalize rch c (k + 1) = rc at HL6 HRl HSx
              generalize lft c (k + 1) T = T' at HSx
              clear HTT
              go_wp2
              go_loopw [91] (fun j wr => ∃ i : Nat, i ≤ c.n ∧ j = .int .i64 i ∧ Hid (Lay w wr [lst (some ⟨gx, 0, none⟩) 24 c.n cx (wrd (orT K T rc i)), arr gr 24 c.n (wrd rc), lst (some ⟨gk, 0, none⟩) 24 c.n ck (wrd K)])) (fun j _ => c.n - (intOf j).toNat)
              case atStart => exact ⟨0, by omega, rfl, HL6.out⟩
              case round =>
                clear HL6
                obtain ⟨i, hi, rfl, HI⟩ := hrel
                by_cases hlt : i < c.n
                · have hck := HI.out.cell1 2 rfl hlt
                  have HI2 : Hid (Lay w wr [lst (some ⟨gx, 0, none⟩) 24 c.n cx (wrd (orM K T rc i 0)), arr gr 24 c.n (wrd rc), lst (some ⟨gk, 0, none⟩) 24 c.n ck (wrd K)]) := by rw [orM_0]; exact HI.out
                  have hb1 := bit_at (i := i) hT
                  have hKi := w32 hn6 (HKl.out i hlt)
                  have hRi := w32 hn6 (HRl.out i hlt)
                  clear HI
                  go_wp2
                  go_loopw [98] (fun j wr => ∃ t : Nat, t ≤ c.n ∧ j = .int .i64 t ∧ Hid (Lay w wr [lst (some ⟨gx, 0, none⟩) 24 c.n cx (wrd (orM K T rc i t)), arr gr 24 c.n (wrd rc), lst (some ⟨gk, 0, none⟩) 24 c.n ck (wrd K)])) (fun j _ => c.n - (intOf j).toNat)
                  case atStart => exact ⟨0, by omega, rfl, HI2.out⟩
                  case round =>
                    clear HI2 hck
                    obtain ⟨t, ht, rfl, HT2⟩ := hrel
                    by_cases hlt2 : t < c.n
                    · have hcx := HT2.out.cell1 0 rfl hlt2
                      have hcr := HT2.out.cell1 1 rfl hlt
                      have hfx := HT2.out.frz 0 rfl (by omega) t
                      have hb2 := bit_at (i := t) hRi
                      have hO := w32 hn6 (orT_lt (there := T) (reach := rc) HKl.out hlt2 i (by omega))
                      have hor := u32_or_nat _ _ hO hKi
                      have hcx : _ = some (Value.int .u32 ((orT K T rc i t : Nat) : Int)) := hcx.trans (by show some (Value.int .u32 ((orM K T rc i t t : Nat) : Int)) = _; rw [orM_self])
                      cases hx1 : T.testBit i
                      · have HN : Hid (orM K T rc i (t + 1) = orM K T rc i t) := orM_no (by rw [hx1]; rfl)
                        rw [hx1] at hb1
                        clear hx1
                        go_wp2
                        go_roundw
                        case rel => exact ⟨t + 1, by omega, by go_num, by rw [HN.out]; exact HT2.out⟩
                        case measure => simp [intOf]; omega
                      · cases hx2 : (rc i).testBit t
                        · have HN : Hid (orM K T rc i (t + 1) = orM K T rc i t) := orM_no (by rw [hx2, Bool.and_false])
                          rw [hx1] at hb1
                          rw [hx2] at hb2
                          clear hx1 hx2
                          go_wp2
                          go_roundw
                          case rel => exact ⟨t + 1, by omega, by go_num, by rw [HN.out]; exact HT2.out⟩
                          case measure => simp [intOf]; omega
                        · have HN : Hid (orM K T rc i (t + 1) = upd (orM K T rc i t) t (orT K T rc i t ||| K i)) := orM_yes hx1 hx2
                          rw [hx1] at hb1
                          rw [hx2] at hb2
                          clear hx1 hx2
                          go_wp2
                          go_roundw
                          case rel => exact ⟨t + 1, by omega, by go_num, by rw [HN.out, orM_self, hor]; exact HT2.out.upd (mk := fun x : Nat => Value.int .u32 (x : Nat)) 0 _ rfl hlt2⟩
                          case measure => simp [intOf]; omega
                    · obtain rfl : t = c.n := by omega
                      have HT3 : Hid (Lay w wr [lst (some ⟨gx, 0, none⟩) 24 c.n cx (wrd (orT K T rc (i + 1))), arr gr 24 c.n (wrd rc), lst (some ⟨gk, 0, none⟩) 24 c.n ck (wrd K)]) :=
                        HT2.out.congr 0 _ rfl (fun u hu => by
                          have hu : u < c.n * 1 := hu
                          show Value.int .u32 ((orM K T rc i c.n u : Nat) : Int) = Value.int .u32 ((orT K T rc (i + 1) u : Nat) : Int)
                          rw [orM_end K T rc i c.n u (by omega)])
                      go_wp2
                      go_roundw
                      case rel => exact ⟨i + 1, by omega, by go_num, HT3.out⟩
                      case measure => simp [intOf]; omega
                · obtain rfl : i = c.n := by omega
                  go_wp2
                  go_roundw
                  case rel =>
                    refine ⟨k + 1, gx, cx, by omega, by go_num, rfl, by rw [HSx.out], ?_⟩
                    rw [HSx.out]
                    exact HI.out.perm [0] (by decide) rfl
                  case measure => simp [intOf]; omega
        · obtain hkR : k = c.R := by omega
          rw [hkR] at HK hT ⊢
          have HK2 : Hid (∀ i, i < c.n → (kn c c.R).1 i < 4294967296) := fun i hi => w32 hn6 (kn_lt c.R i hi)
          have hk1 : (c.R : Int) < c.R + 1 := by omega
          clear hkR hlt hk
          go_wp2_with (first
            | (at_make; refine wpList_mk1 rfl (.tmp 127) (.tmp 127) _ rfl 3 iI _ 8 Try.underlying22 hiI hzI0 hzI1 hzI2 rfl .i64 .i64 c.n rfl rfl (by omega) (by unfold maxLen; omega) w.heap.size _ rfl HK.out.size ?_
               intro w2 ho2 he2
               have HL2 : Hid (Lay w w2 [arr wr.heap.size 3 c.n (fun i => .int .i64 (outTo c v 0 i)), lst (some ⟨gk, 0, none⟩) 24 c.n ck (wrd (kn c c.R).1)]) := by rw [he2]; exact HK.out.make (.int .i64 0) rfl c.n (by unfold maxLen; omega) _ _ (fun i _ => by show Value.int .i64 (outTo c v 0 i) = _; unfold outTo; rw [if_neg (by omega)]) _ rfl
               clear ho2 he2)
            | fail)
          generalize wr.heap.size = go at HL2 ⊢
          clear HK
          go_loopw [131] (fun j wr => ∃ i : Nat, i ≤ c.n ∧ j = .int .i64 i ∧ Hid (Lay w wr [arr go 3 c.n (fun t => .int .i64 (outTo c v i t)), lst (some ⟨gk, 0, none⟩) 24 c.n ck (wrd (kn c c.R).1)])) (fun j _ => c.n - (intOf j).toNat)
          case atStart => exact ⟨0, by omega, rfl, HL2.out⟩
          case round =>
            clear HL2
            obtain ⟨i, hi, rfl, HI⟩ := hrel
            by_cases hlt : i < c.n
            · have hck : _ = some (Value.int .u32 (((kn c c.R).1 i : Nat) : Int)) := HI.out.cell1 1 rfl hlt
              have hb1 := bit_off (i := i) hT
              cases hx1 : (kn c c.R).2.testBit i
              · have HN := Lib.hid (outTo_no (v := v) hx1)
                rw [hx1] at hb1
                clear hx1
                go_wp2
                go_roundw
                case rel => exact ⟨i + 1, by omega, by go_num, by rw [HN.out]; exact HI.out⟩
                case measure => simp [intOf]; omega
              · have HN := Lib.hid (outTo_yes (v := v) hx1)
                rw [hx1] at hb1
                have hcv := HV.out wr HI.out.bel i hlt
                have hco := HI.out.cell1 0 rfl hlt
                have hfo := HI.out.frz 0 rfl (by omega) i
                have HI2 : Hid (Lay w _ [arr go 3 c.n (fun t => .int .i64 (upd (outTo c v i) i (minT v ((kn c c.R).1 i) (v i) 0) t)), lst (some ⟨gk, 0, none⟩) 24 c.n ck (wrd (kn c c.R).1)]) := HI.out.upd (mk := fun x : Int => Value.int .i64 x) 0 (v i) rfl hlt
                have hKi := HK2.out i hlt
                clear hx1
                go_wp2
                generalize (kn c c.R).1 i = Ki at HI2 HN hKi ⊢
                clear hcv hco hfo HI
                go_loopw [150] (fun j wr => ∃ t : Nat, t ≤ c.n ∧ j = .int .i64 t ∧ Hid (Lay w wr [arr go 3 c.n (fun u => .int .i64 (upd (outTo c v i) i (minT v Ki (v i) t) u)), lst (some ⟨gk, 0, none⟩) 24 c.n ck (wrd (kn c c.R).1)])) (fun j _ => c.n - (intOf j).toNat)
                case atStart => exact ⟨0, by omega, rfl, HI2.out⟩
                case round =>
                  clear HI2
                  obtain ⟨t, ht, rfl, HT2⟩ := hrel
                  by_cases hlt2 : t < c.n
                  · have hcv := HV.out wr HT2.out.bel t hlt2
                    have hb2 := bit_at (i := t) hKi
                    cases hx2 : Ki.testBit t
                    · have HM : Hid (minT v Ki (v i) (t + 1) = minT v Ki (v i) t) := if_neg (by rw [hx2]; simp)
                      rw [hx2] at hb2
                      clear hx2
                      go_wp2
                      go_roundw
                      case rel => exact ⟨t + 1, by omega, by go_num, by rw [HM.out]; exact HT2.out⟩
                      case measure => simp [intOf]; omega
                    · have HM : Hid (minT v Ki (v i) (t + 1) = min (minT v Ki (v i) t) (v t)) := if_pos hx2
                      have hco : _ = some (Value.int .i64 (minT v Ki (v i) t)) := (HT2.out.cell1 0 rfl hlt).trans (by show some (Value.int .i64 (upd (outTo c v i) i _ i)) = _; rw [upd_same])
                      have hfo := HT2.out.frz 0 rfl (by omega) i
                      rw [hx2] at hb2
                      clear hx2
                      go_wp2
                      go_roundw
                      case rel =>
                        refine ⟨t + 1, by omega, by go_num, ?_⟩
                        rw [HM.out, imin]
                        have := HT2.out.upd (mk := fun x : Int => Value.int .i64 x) 0 (min (minT v Ki (v i) t) (v t)) rfl hlt
                        rw [upd_upd] at this
                        exact this
                      case measure => simp [intOf]; omega
                  · obtain rfl : t = c.n := by omega
                    go_wp2
                    go_roundw
                    case rel => exact ⟨i + 1, by omega, by go_num, by rw [HN.out]; exact HT2.out⟩
                    case measure => simp [intOf]; omega
            · obtain rfl : i = c.n := by omega
              go_wp2
              go_ret3
              exact ⟨_, rfl, go, rfl, (HI.out.congr 0 (fun i => .int .i64 (outF c v i)) rfl (fun t ht => by
                have ht : t < c.n * 1 := ht
                show Value.int .i64 (outTo c v c.n t) = _
                unfold outTo; rw [if_pos (by omega)])).perm [0] (by decide) rfl⟩
set_option maxRecDepth 100000 in
set_option maxHeartbeats 800000 in
theorem play_bad (A0 : Option Addr) (n cap0 : Nat) (A : Option Addr) (m cap B : Nat) (R : Int) (p r : Nat → Int) (q : Nat → Nat) (w : World) (hn : n ≤ maxLen) (hcap : m ≤ cap ∧ cap ≤ maxLen) (hB : B ≤ w.heap.size)
    (hr : Rd w B A (m * 3) (crF p r (fun i => (q i : Nat)))) (hbad : crCode n m R p r q ≠ 0) :
    Calls Try.prog 6 #[.slice A0 n cap0, .slice A m cap, .int .i64 R] w
      (Gives fun u w' => u = .tuple #[.slice none 0 0, .int .u32 0, .int .i64 (crCode n m R p r q)] ∧ Below w.heap.size w w') := by
  have HWR := Lib.hid (wrong_any A0 n cap0 A m cap B R p r q w hcap hB hn hr)
  generalize crCode n m R p r q = e at HWR hbad ⊢
  have he : (e != 0) = true := by simpa using hbad
  clear hr hcap hbad
  go_enter Try.func6, Try.ntmps6
  go_wp2_with fail
  refine HWR.out.mono ?_
  rintro e w1 ⟨rfl, hw1⟩
  have HW1 := Lib.hid hw1; clear hw1
  go_wp2
  go_ret3
  exact ⟨_, rfl, rfl, HW1.out⟩
end Go.Proofs.Yteocheaihbifaaa
