/- The walks of fork.Low, fork.Round, fork.Turn and fork.Run. -/
import Derived.Test.YtgfogcaklcnliaaFk4
import Derived.Test.YtgfogcaklcnliaaFk5
import Derived.Test.YtgfogcaklcnliaaFkRun
import Derived.Test.YtgfogcaklcnliaaPairs
set_option linter.unusedVariables false
set_option linter.unusedSimpArgs false
namespace Go.Proofs.Ytgfogcaklcnliaa
open Go.RowKit

theorem rd_none' {w : World} {B m : Nat} {A : Option Addr} {F : Nat → Value} (h : Rd w B A (m * 2) F) : A = none → m = 0 := fun e => by
  have := rd_none h e
  omega
/-- Links in memory that may be. -/
structure Good (n : Nat) (l : Lk) (A : Option Addr) (m cap : Nat) (w : World) : Prop where
  ok : LOk n l
  hm : m = l.length
  hn : A = none → m = 0
  hc : m ≤ cap ∧ cap ≤ maxLen
  rd : Rd w w.heap.size A (m * 2) (lkR l)
theorem Good.below {n : Nat} {l : Lk} {A : Option Addr} {m cap : Nat} {w w' : World} (h : Good n l A m cap w) (hb : Below w.heap.size w w') : Good n l A m cap w' :=
  ⟨h.ok, h.hm, h.hn, h.hc, (h.rd.below hb).more hb.size⟩
theorem Good.m15 {n : Nat} {l : Lk} {A : Option Addr} {m cap : Nat} {w : World} (h : Good n l A m cap w) : m ≤ 15 := by rw [h.hm]; exact h.ok.hm
theorem Good.f32 {n : Nat} {l : Lk} {A : Option Addr} {m cap : Nat} {w : World} (h : Good n l A m cap w) : ∀ j, j < m → f1 l j < 32 ∧ f2 l j < 32 := fun j hj => by
  have := h.ok.at_ (j := j) (by rw [← h.hm]; exact hj)
  have := h.ok.h6
  omega
theorem Good.check {n : Nat} {l : Lk} {A : Option Addr} {m cap : Nat} {w : World} (h : Good n l A m cap w) :
    Calls Try.prog 16 #[.int .i64 (n : Nat), .slice A m cap] w (Gives fun v w' => v = .int .i64 0 ∧ Below w.heap.size w w') := by
  refine (fcheck_any n A m cap w.heap.size (fun j => (f1 l j : Nat)) (fun j => (f2 l j : Nat)) w h.hc (Nat.le_refl _) h.rd).mono ?_
  rintro e w' ⟨v, rfl, c, rfl, hc, hb⟩
  obtain rfl : c = 0 := hc.2 (by rw [h.hm]; exact h.ok.fk)
  exact ⟨_, rfl, rfl, hb⟩
theorem Good.low {n : Nat} {l : Lk} {A : Option Addr} {m cap : Nat} {w : World} (h : Good n l A m cap w) :
    Calls Try.prog 17 #[.int .i64 (n : Nat), .slice A m cap] w (Gives fun v w' => v = .int .u32 (low n l : Nat) ∧ Below w.heap.size w w') :=
  low_any n l A m cap w.heap.size w h.ok.h6 h.hm h.m15 (fun j hj => (h.ok.at_ (by rw [← h.hm]; exact hj)).1) (Nat.le_refl _) h.rd
theorem Good.round {n : Nat} {l : Lk} {A : Option Addr} {m cap : Nat} {w : World} (h : Good n l A m cap w) :
    Calls Try.prog 18 #[.int .i64 (n : Nat), .slice A m cap] w (Gives fun v w' => v = .bool (isRound n l) ∧ Below w.heap.size w w') :=
  round_any n l A m cap w.heap.size w h.ok h.hm h.hn (Nat.le_refl _) h.rd
/-- Links in memory that may not be. -/
structure Bad (n : Int) (A : Option Addr) (m cap : Nat) (w : World) : Prop where
  bad : ∃ p q, ¬ FkOk n m p q ∧ (m ≤ cap ∧ cap ≤ maxLen) ∧ Rd w w.heap.size A (m * 2) (recF2 p q)
theorem Bad.below {n : Int} {A : Option Addr} {m cap : Nat} {w w' : World} (h : Bad n A m cap w) (hb : Below w.heap.size w w') : Bad n A m cap w' := by
  obtain ⟨p, q, h1, h2, h3⟩ := h.bad
  exact ⟨p, q, h1, h2, (h3.below hb).more hb.size⟩
theorem Bad.check {n : Int} {A : Option Addr} {m cap : Nat} {w : World} (h : Bad n A m cap w) :
    Calls Try.prog 16 #[.int .i64 n, .slice A m cap] w (Gives fun v w' => ∃ c : Int, v = .int .i64 c ∧ (c != 0) = true ∧ Below w.heap.size w w') := by
  obtain ⟨p, q, h1, h2, h3⟩ := h.bad
  refine (fcheck_any n A m cap w.heap.size p q w h2 (Nat.le_refl _) h3).mono ?_
  rintro e w' ⟨v, rfl, c, rfl, hc, hb⟩
  exact ⟨_, rfl, c, rfl, by simpa using fun e => h1 (hc.1 e), hb⟩

theorem badLow {n : Int} {A : Option Addr} {m cap : Nat} {w : World} (h : Bad n A m cap w) :
    Calls Try.prog 7 #[.int .i64 n, .slice A m cap] w (Gives fun v w' => ∃ c : Int, v = .tuple #[.int .u32 0, .int .i64 c] ∧ (c != 0) = true ∧ Below w.heap.size w w') := by
  have H := Lib.hid h; clear h
  go_enter Try.func7, Try.ntmps7
  go_wp2_with fail
  refine H.out.check.mono ?_
  rintro e w1 ⟨v, rfl, c, rfl, hc, hb⟩
  have HB := Lib.hid hb; clear hb
  have HC := Lib.hid hc
  go_wp2
  go_ret2
  exact ⟨_, rfl, c, rfl, HC.out, HB.out⟩
theorem goodLow {n : Nat} {l : Lk} {A : Option Addr} {m cap : Nat} {w : World} (h : Good n l A m cap w) :
    Calls Try.prog 7 #[.int .i64 (n : Nat), .slice A m cap] w (Gives fun v w' => v = .tuple #[.int .u32 (low n l : Nat), .int .i64 0] ∧ Below w.heap.size w w') := by
  have H := Lib.hid h; clear h
  go_enter Try.func7, Try.ntmps7
  go_wp2_with fail
  refine H.out.check.mono ?_
  rintro e w1 ⟨v, rfl, rfl, hb⟩
  have HB := Lib.hid hb; clear hb
  go_wp2_with fail
  refine (H.out.below HB.out).low.mono ?_
  rintro e w2 ⟨v, rfl, rfl, hb⟩
  have HB2 := Lib.hid (HB.out.trans (hb.mono HB.out.size)); clear hb
  go_wp2
  go_ret2
  exact ⟨_, rfl, rfl, HB2.out⟩
theorem badRound {n : Int} {A : Option Addr} {m cap : Nat} {w : World} (h : Bad n A m cap w) :
    Calls Try.prog 8 #[.int .i64 n, .slice A m cap] w (Gives fun v w' => ∃ c : Int, v = .tuple #[.bool false, .int .i64 c] ∧ (c != 0) = true ∧ Below w.heap.size w w') := by
  have H := Lib.hid h; clear h
  go_enter Try.func8, Try.ntmps8
  go_wp2_with fail
  refine H.out.check.mono ?_
  rintro e w1 ⟨v, rfl, c, rfl, hc, hb⟩
  have HB := Lib.hid hb; clear hb
  have HC := Lib.hid hc
  go_wp2
  go_ret2
  exact ⟨_, rfl, c, rfl, HC.out, HB.out⟩
theorem goodRound {n : Nat} {l : Lk} {A : Option Addr} {m cap : Nat} {w : World} (h : Good n l A m cap w) :
    Calls Try.prog 8 #[.int .i64 (n : Nat), .slice A m cap] w (Gives fun v w' => v = .tuple #[.bool (isRound n l), .int .i64 0] ∧ Below w.heap.size w w') := by
  have H := Lib.hid h; clear h
  go_enter Try.func8, Try.ntmps8
  go_wp2_with fail
  refine H.out.check.mono ?_
  rintro e w1 ⟨v, rfl, rfl, hb⟩
  have HB := Lib.hid hb; clear hb
  go_wp2_with fail
  refine (H.out.below HB.out).round.mono ?_
  rintro e w2 ⟨v, rfl, rfl, hb⟩
  have HB2 := Lib.hid (HB.out.trans (hb.mono HB.out.size)); clear hb
  go_wp2
  go_ret2
  exact ⟨_, rfl, rfl, HB2.out⟩

set_option maxHeartbeats 400000 in
theorem badRun {n many : Int} {A : Option Addr} {m cap : Nat} {w : World} (h : Bad n A m cap w) :
    Calls Try.prog 11 #[.int .i64 n, .slice A m cap, .int .i64 many] w (Gives fun v w' => ∃ c : Int, v = .tuple #[.slice none 0 0, .slice none 0 0, .int .i64 c] ∧ (c != 0) = true ∧ Below w.heap.size w w') := by
  have H := Lib.hid h; clear h
  go_enter Try.func11, Try.ntmps11
  go_wp2_with fail
  refine H.out.check.mono ?_
  rintro e w1 ⟨v, rfl, c, rfl, hc, hb⟩
  have HB := Lib.hid hb; clear hb
  have HC := Lib.hid hc
  go_wp2
  go_ret3
  exact ⟨_, rfl, c, rfl, HC.out, HB.out⟩
set_option maxHeartbeats 400000 in
theorem badRun2 {n : Nat} {l : Lk} {many : Int} {A : Option Addr} {m cap : Nat} {w : World} (h : Good n l A m cap w) (hb : ¬ (0 ≤ many ∧ many ≤ 60) ∨ isRound n l = true) :
    Calls Try.prog 11 #[.int .i64 (n : Nat), .slice A m cap, .int .i64 many] w (Gives fun v w' => ∃ c : Int, v = .tuple #[.slice none 0 0, .slice none 0 0, .int .i64 c] ∧ (c != 0) = true ∧ Below w.heap.size w w') := by
  have H := Lib.hid h; clear h
  go_enter Try.func11, Try.ntmps11
  go_wp2_with fail
  refine H.out.check.mono ?_
  rintro e w1 ⟨v, rfl, rfl, hb⟩
  have HB := Lib.hid hb; clear hb
  by_cases hm : 0 ≤ many ∧ many ≤ 60
  · obtain ⟨hm0, hm1⟩ := hm
    have HR : Hid (isRound n l = true) := Lib.hid (hb.resolve_left fun h => h ⟨hm0, hm1⟩)
    clear hb
    go_wp2_with fail
    refine (H.out.below HB.out).round.mono ?_
    rintro e w2 ⟨v, rfl, rfl, hb⟩
    have HB2 := Lib.hid (HB.out.trans (hb.mono HB.out.size)); clear hb
    rw [HR.out]
    go_wp2
    go_ret3
    exact ⟨_, rfl, _, rfl, by decide, HB2.out⟩
  · clear hb
    go_wp2
    all_goals first
      | (exfalso; omega)
      | (go_ret3; exact ⟨_, rfl, _, rfl, by decide, HB.out⟩)
theorem infoI : (Try.prog.info? 3).map (fun i => (i.zero, i.size, i.bytes)) = some (some (.int .i64 0), 1, 8) := by kernel_rfl
def oftF (n : Nat) (l : Lk) (r : Nat) (i : Nat) : Value := .int .i64 (oft n l r i : Nat)
def oftI (n : Nat) (l : Lk) (r j : Nat) (i : Nat) : Nat := if i < j then oft n l (r + 1) i else oft n l r i
set_option maxRecDepth 100000 in
set_option maxHeartbeats 2000000 in
theorem goodRun {n : Nat} {l : Lk} {many : Nat} {A : Option Addr} {m cap : Nat} {w : World} (h : Good n l A m cap w) (hm60 : many ≤ 60) (hrd : isRound n l = false) :
    Calls Try.prog 11 #[.int .i64 (n : Nat), .slice A m cap, .int .i64 (many : Nat)] w
      (Gives fun v w' => ∃ A' cap' g, v = .tuple #[.slice A' m cap', .slice (some ⟨g, 0, none⟩) n n, .int .i64 0] ∧ Lay w w' [lkA A' cap' (runL n l many), arr g 3 n (oftF n l many)]) := by
  have H := Lib.hid h; clear h
  have HRD := Lib.hid hrd; clear hrd
  have h1 := H.out.ok.h1
  have h6 := H.out.ok.h6
  have h15 := H.out.m15
  obtain ⟨iI, hiI, hzI0, hzI1, hzI2⟩ := info_parts infoI
  go_enter Try.func11, Try.ntmps11
  go_wp2_with fail
  refine H.out.check.mono ?_
  rintro e w1 ⟨v, rfl, rfl, hb⟩
  have HB := Lib.hid hb; clear hb
  go_wp2_with fail
  refine (H.out.below HB.out).round.mono ?_
  rintro e w2 ⟨v, rfl, rfl, hb⟩
  have HL2 := Lib.hid ((Lay.nil w).keep (HB.out.trans (hb.mono HB.out.size))); clear hb
  rw [HRD.out]
  go_wp2_with (first
    | (at_make; refine wpList_mk1 rfl (.tmp 28) (.tmp 28) _ rfl 3 iI _ 8 Try.underlying33 hiI hzI0 hzI1 hzI2 rfl .i64 .i64 n rfl rfl (by omega) (by unfold maxLen; omega) w.heap.size _ rfl HL2.out.size ?_
       intro w3 ho3 he3
       have HL3 : Hid (Lay w w3 [arr w2.heap.size 3 n (oftF n l 0)]) := by rw [he3]; exact HL2.out.make (.int .i64 0) rfl n (by unfold maxLen; omega) _ _ (fun _ _ => rfl) _ rfl
       clear ho3 he3)
    | fail)
  generalize w2.heap.size = g at HL3 ⊢
  have HG3 := Lib.hid (H.out.below HL3.out.bel)
  refine (clone_any l A m cap _ w3 HG3.out.hm h15 HG3.out.hn (Nat.le_refl _) HG3.out.rd).mono ?_
  rintro e w4 ⟨v, rfl, A1, c1, rfl, hL4⟩
  have HL4 := Lib.hid (HL3.out.join hL4)
  clear hL4 HG3 HL3
  go_wp2
  go_loopw [1, 33] (fun ls i wr => ∃ (r : Nat) (A1 : Option Addr) (c1 : Nat), i = .int .i64 (r : Nat) ∧ r ≤ many ∧ ls = .slice A1 m c1 ∧ Hid (Lay w wr [lkA A1 c1 (runL n l r), arr g 3 n (oftF n l r)])) (fun _ i _ => many - (intOf i).toNat)
  case atStart => exact ⟨0, A1, c1, rfl, by omega, rfl, HL4⟩
  case round =>
    clear HL4 HL2 HB
    obtain ⟨r, A1, c1, rfl, hr, rfl, HL⟩ := hrel
    have HOK := Lib.hid (runL_ok H.out.ok r)
    have HLEN := Lib.hid (runL_len n l r)
    have hml : m = (runL n l r).length := by rw [HLEN.out, H.out.hm]
    have HGD : Hid (Good n (runL n l r) A1 m c1 wr) := by
      have ho := HL.out.own 0 _ rfl
      have hrdd := HL.out.rd 0 rfl
      have hle := ho.le
      unfold lkA at hrdd hle
      dsimp only at hrdd hle
      rw [← hml] at hrdd hle
      exact ⟨HOK.out, hml, rd_none' hrdd, hle, hrdd⟩
    have HML := Lib.hid hml
    clear hml
    by_cases hlt : r < many
    · have HRS : Hid (runL n l (r + 1) = turnL (runL n l r) (low n (runL n l r))) := Lib.hid rfl
      have HOS : Hid (∀ i, oft n l (r + 1) i = oft n l r i + bitN (low n (runL n l r)) i) := Lib.hid fun i => rfl
      have HS := Lib.hid (six_small h6 (low_lt n (runL n l r)))
      go_wp2_with fail
      refine HGD.out.low.mono ?_
      rintro e w5 ⟨v, rfl, rfl, hb⟩
      have HL5 := Lib.hid (HL.out.keep hb)
      have HG5 := Lib.hid (HGD.out.below hb)
      clear hb HL HGD
      generalize low n (runL n l r) = S at HRS HOS HS ⊢
      go_wp2
      go_loopw [39] (fun i wr => ∃ j : Nat, i = .int .i64 (j : Nat) ∧ j ≤ n ∧ Hid (Lay w wr [lkA A1 c1 (runL n l r), arr g 3 n (fun i => .int .i64 (oftI n l r j i : Nat))]) ∧ Hid (Good n (runL n l r) A1 m c1 wr)) (fun i _ => n - (intOf i).toNat)
      case atStart => exact ⟨0, rfl, by omega, HL5, HG5⟩
      case round =>
        clear HL5 HG5
        obtain ⟨j, rfl, hj, HL, HGD⟩ := hrel
        by_cases hltj : j < n
        · have hck := HL.out.cell1 1 rfl hltj
          have hfz := HL.out.frz 1 rfl (by omega) j
          have hga := (HL.out.at_ 1 rfl).2
          have hbn := bit_num (P := S) (i := j) (by have := HS.out; omega)
          have e0 : oftI n l r j j = oft n l r j := if_neg (by omega)
          rw [e0] at hck
          have hob : oft n l r j ≤ r := oft_le n l r j
          have HBN : Hid (∀ b, S.testBit j = b → oft n l (r + 1) j = oft n l r j + if b then 1 else 0) := Lib.hid fun b hb => by rw [HOS.out, bitN, hb]
          have HLS : Hid (∀ W x, Sim (wr.setCell ⟨g, j, none⟩ (.int .i64 (x : Nat))) W → x = oft n l (r + 1) j → Lay w W [lkA A1 c1 (runL n l r), arr g 3 n (fun i => .int .i64 (oftI n l r (j + 1) i : Nat))]) := Lib.hid fun W x hs hx => by
            refine ((HL.out.upd (mk := fun x : Nat => Value.int .i64 (x : Nat)) 1 x rfl hltj).congr 1 _ rfl ?_).sim hs
            intro t _
            show Value.int .i64 ((upd (oftI n l r j) j x t : Nat) : Int) = Value.int .i64 ((oftI n l r (j + 1) t : Nat) : Int)
            rw [upd_apply]
            unfold oftI
            by_cases e : t = j
            · subst e; rw [if_pos rfl, if_pos (by omega), hx]
            · by_cases e2 : t < j
              · simp [e, e2, Nat.lt_succ_of_lt e2]
              · simp [e, e2, show ¬ t < j + 1 by omega]
          have HGS : Hid (∀ W x, Sim (wr.setCell ⟨g, j, none⟩ (.int .i64 (x : Nat))) W → Good n (runL n l r) A1 m c1 W) := Lib.hid fun W x hs => by
            have hL := (HL.out.upd (mk := fun x : Nat => Value.int .i64 (x : Nat)) 1 x rfl hltj).sim hs
            have hrdd : Rd W W.heap.size A1 ((runL n l r).length * 2) (lkR (runL n l r)) := hL.rd 0 rfl
            rw [← HML.out] at hrdd
            exact ⟨HGD.out.ok, HGD.out.hm, HGD.out.hn, HGD.out.hc, hrdd⟩
          cases hb : S.testBit j
          all_goals
            rw [hb] at hbn
            simp only [if_true, Bool.false_eq_true, if_false] at hbn
            have HNB := Lib.hid (HBN.out _ hb)
            clear hb
            go_wp2
            refine wp_text 11 (by kernel_rfl) (by kernel_rfl) (by kernel_rfl) (by repeat' (first | (with_reducible apply tame_then) | (with_reducible apply tame_block) | (with_reducible apply tame_scope) | exact tame_gives | exact tame_body (fun _ _ h => ⟨_, h.1⟩))) ?_
            simp only [List.take_succ_cons, List.take_zero, List.drop_succ_cons, List.drop_zero]
            go_wp2
            refine headed ?_
            go_wp2
            go_roundw
            case rel => exact ⟨j + 1, by go_num, by omega, Lib.hid (HLS.out _ (oft n l (r + 1) j) (by rw [HNB.out]; exact ⟨rfl, rfl, rfl, rfl⟩) rfl), Lib.hid (HGS.out _ (oft n l (r + 1) j) (by rw [HNB.out]; exact ⟨rfl, rfl, rfl, rfl⟩))⟩
            case measure => simp [intOf]; omega
        · obtain rfl : j = n := by omega
          have HL6 : Hid (Lay w wr [lkA A1 c1 (runL j l r), arr g 3 j (oftF j l (r + 1))]) := Lib.hid (HL.out.congr 1 _ rfl fun t ht => by
            have ht : t < j * 1 := ht
            show Value.int .i64 ((oftI j l r j t : Nat) : Int) = _
            rw [oftI, if_pos (by omega)]
            rfl)
          clear HL
          go_wp2_with fail
          refine (turn_any (runL j l r) S A1 m c1 _ wr HGD.out.hm h15 HGD.out.hn HGD.out.f32 (by have := HS.out; omega) (Nat.le_refl _) HGD.out.rd).mono ?_
          rintro e w7 ⟨v, rfl, A2, c2, rfl, hL7⟩
          have HL7 : Hid (Lay w w7 [lkA A2 c2 (turnL (runL j l r) S), arr g 3 j (oftF j l (r + 1))]) := Lib.hid ((HL6.out.join hL7).perm [0, 2] (by decide) rfl)
          clear hL7 HL6 HGD
          go_wp2
          go_roundw
          case rel => exact ⟨r + 1, A2, c2, by go_num, by omega, rfl, by rw [HRS.out]; exact HL7⟩
          case measure => simp [intOf]; omega
    · obtain rfl : r = many := by omega
      go_wp2
      go_ret3
      exact ⟨_, rfl, A1, c1, g, rfl, HL.out⟩
end Go.Proofs.Ytgfogcaklcnliaa
