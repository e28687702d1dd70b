/- The document's Round. -/
import Derived.Test.YtgfogcaklcnliaaFk4
import Derived.Test.YtgfogcaklcnliaaReach
set_option linter.unusedVariables false
set_option linter.unusedSimpArgs false
namespace Go.Proofs.Ytgfogcaklcnliaa
open Go.RowKit Relation

def outTo (l : Lk) : Nat → Nat → Nat
  | 0 => fun _ => 0
  | k + 1 => upd (outTo l k) (f1 l k) (outTo l k (f1 l k) ||| 2 ^ f2 l k)
theorem outTo_bit (l : Lk) (k a b : Nat) : (outTo l k a).testBit b = true ↔ ∃ j, j < k ∧ f1 l j = a ∧ f2 l j = b := by
  induction k with
  | zero => simp [outTo]
  | succ k ih =>
    rw [outTo, upd_apply]
    by_cases ha : a = f1 l k
    · subst ha
      rw [if_pos rfl, Nat.testBit_or, Bool.or_eq_true, ih, Nat.testBit_two_pow, decide_eq_true_iff]
      constructor
      · rintro (⟨j, hj, h⟩ | h)
        · exact ⟨j, by omega, h⟩
        · exact ⟨k, by omega, rfl, h⟩
      · rintro ⟨j, hj, h1, h2⟩
        rcases Nat.lt_succ_iff_lt_or_eq.1 hj with h | rfl
        · exact .inl ⟨j, h, h1, h2⟩
        · exact .inr h2
    · rw [if_neg ha, ih]
      constructor
      · rintro ⟨j, hj, h⟩
        exact ⟨j, by omega, h⟩
      · rintro ⟨j, hj, h1, h2⟩
        rcases Nat.lt_succ_iff_lt_or_eq.1 hj with h | rfl
        · exact ⟨j, h, h1, h2⟩
        · exact absurd h1.symm ha
theorem outTo_lt {n : Nat} {l : Lk} (h : LOk n l) {k : Nat} (hk : k ≤ l.length) (a : Nat) : outTo l k a < 2 ^ n := by
  refine nat_lt_pow fun i hi => ?_
  obtain ⟨j, hj, _, e⟩ := (outTo_bit l k a i).1 hi
  rw [← e]
  exact (h.at_ (by omega)).2.1
theorem round_ref {n : Nat} {l : Lk} (h : LOk n l) : anyTo (fun i => (reachN (outTo l l.length) n i).testBit i) n = isRound n l := by
  rw [Bool.eq_iff_iff, anyTo_iff, round_iff h]
  have hf : ∀ k, k < n → outTo l l.length k < 2 ^ n := fun k _ => outTo_lt h (Nat.le_refl _) k
  have hln : ∀ a b, To (outTo l l.length) n a b ↔ Ln l a b := by
    intro a b
    unfold To Ln
    rw [outTo_bit]
    constructor
    · rintro ⟨_, j, hj, e1, e2⟩
      rw [← e1, ← e2]; exact f_mem hj
    · intro hm
      obtain ⟨j, hj, e1, e2⟩ := mem_f hm
      exact ⟨(h.rg _ hm).1, j, hj, e1, e2⟩
  have heq : To (outTo l l.length) n = Ln l := funext fun a => funext fun b => propext (hln a b)
  constructor
  · rintro ⟨i, hi, hb⟩
    have := (reach_iff hf hi i).1 hb
    rw [heq] at this
    exact ⟨i, this⟩
  · rintro ⟨v, hv⟩
    obtain ⟨U, hu, _, hs⟩ := of_cyc hv
    obtain ⟨w, _, hl⟩ := hs v hu
    have hvn := (ln_lt h hl).1
    refine ⟨v, hvn, (reach_iff hf hvn v).2 ?_⟩
    rw [heq]; exact hv

def wrd (f : Nat → Nat) (j : Nat) : Value := .int .u32 (f j : Nat)
theorem infoW : (Try.prog.info? 23).map (fun i => (i.zero, i.size, i.bytes)) = some (some (.int .u32 0), 1, 4) := by kernel_rfl
set_option maxHeartbeats 2000000 in
theorem rround_any (n : Nat) (l : Lk) (A : Option Addr) (m cap B : Nat) (w : World) (hok : LOk n l) (hm : m = l.length) (hB : B ≤ w.heap.size) (hr : Rd w B A (m * 2) (lkR l)) :
    Calls Try.prog 12 #[.int .i64 (n : Nat), .slice A m cap] w (Gives fun v w' => v = .bool (isRound n l) ∧ Below w.heap.size w w') := by
  have h6 := hok.h6
  have h1 := hok.h1
  have hm15 : m ≤ 15 := by rw [hm]; exact hok.hm
  have HR := Lib.hid (hr.more hB); clear hr
  have HM := Lib.hid hm
  have HLT : Hid (∀ j, j < m → f1 l j < n ∧ f2 l j < n) := Lib.hid fun j hj => by
    have := hok.at_ (j := j) (by omega)
    omega
  have HO : Hid (∀ k, k ≤ m → ∀ a, outTo l k a < 64) := Lib.hid fun k hk a => six_small h6 (outTo_lt hok (by omega) a)
  have HO2 : Hid (∀ k, k < n → outTo l m k < 2 ^ n) := Lib.hid fun k hk => outTo_lt hok (by omega) k
  have HRR : Hid (anyTo (fun i => (reachN (outTo l m) n i).testBit i) n = isRound n l) := Lib.hid (by rw [hm]; exact round_ref hok)
  have H64 : Hid (∀ i, i < n → reachN (outTo l m) n i < 4294967296) := Lib.hid fun i hi => by have := six_small h6 (rout_lt HO2.out hi n); unfold reachN; omega
  clear hok hm
  obtain ⟨iW, hiW, hzW0, hzW1, hzW2⟩ := info_parts infoW
  go_enter Try.func12, Try.ntmps12
  go_wp2_with (first
    | (at_make; refine wpList_mk1 rfl (.tmp 9) (.tmp 9) _ rfl 23 iW _ 4 Try.underlying47 hiW hzW0 hzW1 hzW2 rfl .i64 .i64 n rfl rfl (by omega) (by unfold maxLen; omega) w.heap.size _ rfl (Nat.le_refl _) ?_
       intro w2 ho2 he2
       have HL2 : Hid (Lay w w2 [arr w.heap.size 23 n (wrd (outTo l 0))]) := by rw [he2]; exact (Lay.nil w).make (.int .u32 0) rfl n (by unfold maxLen; omega) _ _ (fun _ _ => rfl) _ rfl
       clear ho2 he2)
    | fail)
  go_loopw [13] (fun i wr => ∃ k : Nat, i = .int .i64 k ∧ k ≤ m ∧ Hid (Lay w wr [arr w.heap.size 23 n (wrd (outTo l k))])) (fun i _ => m - (intOf i).toNat)
  case atStart => exact ⟨0, rfl, by omega, HL2⟩
  case round =>
    clear HL2
    obtain ⟨k, rfl, hk, HL⟩ := hrel
    have hz := HL.out.size
    by_cases hlt : k < m
    · obtain ⟨ad, rfl, hbl, c0, c1⟩ := Rd.rec2 (HR.out.below HL.out.bel) hlt
      obtain ⟨l1, l2⟩ := HLT.out k hlt
      have HL1 : Hid (∀ o, Lay w (wr.alloc o) [arr w.heap.size 23 n (wrd (outTo l k))]) := Lib.hid fun o => HL.out.alloc o
      have hbl2 : (ad.add (k * 2)).block < wr.heap.size := by rw [addr_block]; omega
      have HST : Hid (outTo l (k + 1) = upd (outTo l k) (f1 l k) (outTo l k (f1 l k) ||| 2 ^ f2 l k)) := Lib.hid rfl
      have HC := Lib.hid (or_pow (a := outTo l k (f1 l k)) (m := f2 l k) (by have := HO.out k hk (f1 l k); omega) (by omega))
      obtain ⟨p, hp⟩ : ∃ p, f1 l k = p := ⟨_, rfl⟩
      obtain ⟨q, hq⟩ : ∃ q, f2 l k = q := ⟨_, rfl⟩
      rw [hp, hq] at HC HST
      rw [hp] at c0 l1
      rw [hq] at c1 l2
      clear hp hq
      have hck : ∀ o, (wr.alloc o).cell? ⟨w.heap.size, p, none⟩ = some (.int .u32 (outTo l k p : Nat)) := fun o => (HL1.out o).cell1 0 rfl l1
      have hfz : ∀ o, (wr.alloc o).frozen? ⟨w.heap.size, p, none⟩ = false := fun o => (HL1.out o).frz 0 rfl (by omega) p
      have hga := (HL.out.at_ 0 rfl).2
      go_wp2
      refine wp_text 14 (by kernel_rfl) (by kernel_rfl) (by kernel_rfl) (by repeat' (first | (with_reducible apply tame_then) | (with_reducible apply tame_block) | (with_reducible apply tame_scope) | exact tame_gives | exact tame_body (fun _ _ h => ⟨_, h.1⟩))) ?_
      simp only [List.take_succ_cons, List.take_zero, List.drop_succ_cons, List.drop_zero]
      go_wp2
      refine headed ?_
      go_wp2
      go_roundw
      case rel =>
        refine ⟨k + 1, by go_num, by omega, Lib.hid ?_⟩
        rw [HST.out, HC.out]
        exact ((HL.out.upd (mk := fun x : Nat => Value.int .u32 (x : Nat)) 0 _ rfl l1).alloc _).drew
      case measure => simp [intOf]; omega
    · obtain rfl : k = m := by omega
      have HRD : Hid (Rd wr wr.heap.size (some ⟨w.heap.size, 0, none⟩) n (fun j => .int .u32 (outTo l k j : Nat))) := Lib.hid (HL.out.rd1 0 rfl)
      have HB0 := Lib.hid HL.out.bel
      clear HL
      go_wp2
      go_loopw [8] (fun i w3 => ∃ j : Nat, i = .int .i64 j ∧ j ≤ n ∧ w3 = wr ∧ Hid (∀ i, i < j → (reachN (outTo l k) n i).testBit i = false)) (fun i _ => n - (intOf i).toNat)
      case atStart => exact ⟨0, rfl, by omega, rfl, fun j hj => absurd hj (by omega)⟩
      case round =>
        obtain ⟨j, rfl, hj, rfl, HA⟩ := hrel
        by_cases hlt : j < n
        · have HB := Lib.hid (bitB_nat (reachN (outTo l k) n j) j)
          have H6 := Lib.hid (H64.out j hlt)
          have HRE := Lib.hid (reach_any _ n n _ (outTo l k) j _ h6 hlt HO2.out HRD.out)
          have HNX : Hid ((reachN (outTo l k) n j).testBit j = true → isRound n l = true) := Lib.hid fun h => by rw [← HRR.out]; exact anyTo_iff.2 ⟨j, hlt, h⟩
          have HNY : Hid ((reachN (outTo l k) n j).testBit j = false → ∀ i, i < j + 1 → (reachN (outTo l k) n i).testBit i = false) := Lib.hid fun h i hi => (Nat.lt_succ_iff_lt_or_eq.1 hi).elim (HA.out i) (fun e => by subst e; exact h)
          generalize reachN (outTo l k) n j = S at HB H6 HRE HNX HNY
          cases hb : S.testBit j
          all_goals
            have HT := Lib.hid hb
            clear hb
            go_wp2_with fail
            refine HRE.out.mono ?_
            rintro e w' ⟨rfl, rfl⟩
            go_wp2_with fail
            refine (bit_is _ S j _ H6.out (HB.out.trans HT.out)).mono ?_
            rintro e w' ⟨rfl, rfl⟩
            go_wp2
          · go_roundw
            case rel => exact ⟨j + 1, by go_num, by omega, by trivial, HNY.out HT.out⟩
            case measure => simp [intOf]; omega
          · go_ret
            exact ⟨_, rfl, by rw [HNX.out HT.out]; rfl, HB0.out⟩
        · obtain rfl : j = n := by omega
          have HN : Hid (isRound j l = false) := Lib.hid (by rw [← HRR.out]; exact anyTo_no.2 HA.out)
          go_wp2
          go_ret
          exact ⟨_, rfl, by rw [HN.out]; rfl, HB0.out⟩
end Go.Proofs.Ytgfogcaklcnliaa
