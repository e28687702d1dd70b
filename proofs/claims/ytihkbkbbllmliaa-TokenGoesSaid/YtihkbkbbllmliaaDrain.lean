/- The walk of 'drain': so many rounds in which each takes what comes first from each. -/
import Derived.Test.YtihkbkbbllmliaaLay
import Derived.Test.YtihkbkbbllmliaaMvApp
import Derived.BigQuiet
import Derived.Deep.QuietTactic
import Derived.Test.YtihkbkbbllmliaaText
set_option linter.unusedVariables false
set_option linter.unusedSimpArgs false
namespace Go.Proofs.Ytihkbkbbllmliaa
open Go.RowKit

abbrev Z0 : Mv := ⟨fun _ => 0, fun _ => 0, fun _ => 0, fun _ => 0⟩
abbrev mvs (A : Option Addr) (q cap : Nat) (M : Mv) : LRow := ⟨A, 35, 4, q, cap, mvF M⟩
/-- The script N of q moves is what is taken ahead of the turn of way (i, j) in round k. -/
inductive Dr (n : Nat) : Nat → Nat → Nat → Mv → Nat → Prop
  | start (N : Mv) : Dr n 0 0 0 N 0
  | skip {k i q : Nat} {N : Mv} : Dr n k i i N q → Dr n k i (i + 1) N q
  | take {k i j q : Nat} {N : Mv} : i < n → j < n → i ≠ j → Dr n k i j N q → Dr n k i (j + 1) (N.push q 2 i j 0) (q + 1)
  | line {k i q : Nat} {N : Mv} : Dr n k i n N q → Dr n k (i + 1) 0 N q
  | round {k q : Nat} {N : Mv} : Dr n k n 0 N q → Dr n (k + 1) 0 0 N q
theorem app_push (M : Mv) (m : Nat) (N : Mv) (q : Nat) (a b c d : Int) : M.app m (N.push q a b c d) = (M.app m N).push (m + q) a b c d := by
  have key : ∀ (f g : Nat → Int) (x : Int), (fun j => if j < m then f j else upd g q x (j - m)) = upd (fun j => if j < m then f j else g (j - m)) (m + q) x := by
    intro f g x
    funext j
    rw [upd_apply, upd_apply]
    by_cases h : j < m
    · rw [if_pos h, if_neg (by omega), if_pos h]
    · rw [if_neg h, if_neg h]
      by_cases e : j = m + q
      · rw [if_pos e, if_pos (by omega)]
      · rw [if_neg e, if_neg (by omega)]
  unfold Mv.app Mv.push
  simp only [key]
set_option maxRecDepth 100000 in
set_option maxHeartbeats 3200000 in
theorem drain_any (n : Nat) (w : World) (hn : n ≤ 3) :
    Calls Try.prog 12 #[.int .i64 n, .int .i64 8] w (Gives fun v w' => ∃ A q cap N, v = .slice A q cap ∧ Lay w w' [mvs A q cap N] ∧ Dr n 8 0 0 N q ∧ q ≤ 48) := by
  have HL0 := Lib.hid ((Lay.nil w).lnil 35 4 (mvF Z0))
  go_enter Try.func12, Try.ntmps12
  go_wp2
  go_loopw [5, 6] (fun l kv wr => ∃ (k q : Nat) (A' : Option Addr) (cap' : Nat) (N : Mv), k ≤ 8 ∧ q ≤ k * 6 ∧ kv = .int .i64 (k : Nat) ∧ l = .slice A' q cap' ∧ Hid (Lay w wr [mvs A' q cap' N]) ∧ Hid (Dr n k 0 0 N q)) (fun _ kv _ => 8 - (intOf kv).toNat)
  case atStart => exact ⟨0, 0, none, 0, Z0, by omega, by omega, rfl, rfl, HL0, Lib.hid (.start _)⟩
  case round =>
    clear HL0
    obtain ⟨k, q, A1, cap1, N1, hk, hq, rfl, rfl, HL, HG⟩ := hrel
    by_cases hkN : k < 8
    · go_wp2
      go_loopw [5, 7] (fun l iv wr => ∃ (i q2 : Nat) (A' : Option Addr) (cap' : Nat) (N : Mv), i ≤ n ∧ q2 ≤ q + i * 2 ∧ iv = .int .i64 (i : Nat) ∧ l = .slice A' q2 cap' ∧ Hid (Lay w wr [mvs A' q2 cap' N]) ∧ Hid (Dr n k i 0 N q2)) (fun _ iv _ => n - (intOf iv).toNat)
      case atStart => exact ⟨0, q, A1, cap1, N1, by omega, by omega, rfl, rfl, HL, HG⟩
      case round =>
        clear HL HG
        obtain ⟨i, q2, A2, cap2, N2, hi, hq2, rfl, rfl, HL, HG⟩ := hrel
        by_cases hin : i < n
        · go_wp2
          go_loopw [5, 8] (fun l jv wr => ∃ (j q3 : Nat) (A' : Option Addr) (cap' : Nat) (N : Mv), j ≤ n ∧ (q3 ≤ q2 + j ∧ (i < j → q3 + 1 ≤ q2 + j)) ∧ jv = .int .i64 (j : Nat) ∧ l = .slice A' q3 cap' ∧ Hid (Lay w wr [mvs A' q3 cap' N]) ∧ Hid (Dr n k i j N q3)) (fun _ jv _ => n - (intOf jv).toNat)
          case atStart => exact ⟨0, q2, A2, cap2, N2, by omega, by omega, rfl, rfl, HL, HG⟩
          case round =>
            clear HL HG
            obtain ⟨j, q3, A3, cap3, N3, hj, hq3, rfl, rfl, HL, HG⟩ := hrel
            have hz := HL.out.size
            by_cases hjn : j < n
            · by_cases hij : i = j
              · subst hij
                go_wp2
                go_roundw
                case rel => exact ⟨i + 1, q3, A3, cap3, N3, by omega, by omega, by go_num, rfl, HL, Lib.hid (.skip HG.out)⟩
                case measure => simp [intOf]; omega
              · have e1 : ((i : Int) != (j : Int)) = true := by rw [bne_iff_ne]; omega
                have e2 : (i != j) = true := by simpa using hij
                go_wp2_with (at_builtin; refine wpList_apMv rfl (.tmp 27) (.tmp 31) rfl w.heap.size rfl wr.heap.size _ _ _ _ rfl rfl (HL.out.own 0 _ rfl) rfl (by omega) HL.out.size ?_; intro A5 c5 w5 ho5 hg5 ha5
                             have HL5 := Lib.hid ((HL.out.alloc _).app 0 rfl ho5 hg5 ha5)
                             clear ho5 hg5 ha5)
                have HG5 : Hid (Dr n k i (j + 1) (N3.push q3 2 i j 0) (q3 + 1)) := Lib.hid (.take hin hjn hij HG.out)
                go_roundw
                case rel => first
                  | exact ⟨j + 1, q3 + 1, A5, c5, _, by omega, by omega, by go_num, rfl, HL5, HG5⟩
                  | exact ⟨j + 1, by omega, q3 + 1, by omega, by go_num, A5, c5, ⟨rfl, rfl, rfl⟩, _, HL5, HG5⟩
                case measure => simp [intOf]; omega
            · obtain rfl : j = n := by omega
              go_wp2
              go_roundw
              case rel => exact ⟨i + 1, q3, A3, cap3, N3, by omega, by omega, by go_num, rfl, HL, Lib.hid (.line HG.out)⟩
              case measure => simp [intOf]; omega
        · obtain rfl : i = n := by omega
          go_wp2
          go_roundw
          case rel => exact ⟨k + 1, q2, A2, cap2, N2, by omega, by omega, by go_num, rfl, HL, Lib.hid (.round HG.out)⟩
          case measure => simp [intOf]; omega
    · obtain rfl : k = 8 := by omega
      go_wp2
      go_ret
      exact ⟨_, rfl, A1, q, cap1, N1, rfl, HL.out, HG.out, by omega⟩
set_option maxRecDepth 100000 in
set_option maxHeartbeats 3200000 in
theorem drain_neg (n : Int) (w : World) (hn : n < 0) :
    Calls Try.prog 12 #[.int .i64 n, .int .i64 8] w fun e w' => e = .returned (.slice none 0 0) ∧ w = w' := by
  have hn0 : ¬ (0 : Int) < n := by omega
  go_enter Try.func12, Try.ntmps12
  go_wp2
  go_loopw [5, 6] (fun l kv wr => ∃ k : Nat, k ≤ 8 ∧ kv = .int .i64 (k : Nat) ∧ l = .slice none 0 0 ∧ wr = w) (fun _ kv _ => 8 - (intOf kv).toNat)
  case atStart => exact ⟨0, by omega, rfl, rfl, rfl⟩
  case round =>
    obtain ⟨k, hk, rfl, rfl, rfl⟩ := hrel
    by_cases hkN : k < 8
    · go_wp2
      go_loopw [5, 7] (fun l iv wr2 => iv = .int .i64 0 ∧ l = .slice none 0 0 ∧ wr2 = wr) (fun _ _ _ => 0)
      case atStart => exact ⟨rfl, rfl, rfl⟩
      case round =>
        obtain ⟨rfl, rfl, rfl⟩ := hrel
        go_wp2
        go_roundw
        case rel => exact ⟨k + 1, by omega, by go_num, by simp⟩
        case measure => simp [intOf]; omega
    · obtain rfl : k = 8 := by omega
      go_wp2
      go_ret
      exact ⟨rfl, rfl⟩
end Go.Proofs.Ytihkbkbbllmliaa
