/- The walks of slices.Clone and slices.DeleteFunc at []uint32. -/
import Derived.Test.YtgjmnnbcclgahaaBetMath
import Derived.Test.YtgjmnnbcclgahaaLay
import Derived.Test.YtgjmnnbcclgahaaText
import Derived.Lib.SliceRun
set_option linter.unusedVariables false
set_option linter.unusedSimpArgs false
namespace Go.Proofs.Ytgjmnnbcclgahaa
open Go.RowKit

theorem infoU32 : (Try.prog.info? 23).map (fun i => (i.zero, i.size, i.bytes)) = some (some (.int .u32 0), 1, 4) := by kernel_rfl
set_option maxHeartbeats 800000 in
theorem cloneU_lay (A : Option Addr) (n cap B : Nat) (u : Nat → Nat) (w : World) (hn : n ≤ 1000) (hB : B ≤ w.heap.size) (hr : Rd w B A n (fun j => .int .u32 (u j : Nat))) :
    Calls Try.prog 38 #[.slice A n cap] w (Gives fun v w' => ∃ A' cp, v = .slice A' n cp ∧ Lay w w' [⟨A', 23, 1, n, cp, fun j => .int .u32 (u j : Nat)⟩]) := by
  have HR := Lib.hid hr; clear hr
  rcases A with _ | ad
  · have hn0 : n = 0 := by
      rcases Nat.eq_zero_or_pos n with h | h
      · exact h
      · obtain ⟨ad, e, _⟩ := HR.out h; cases e
    subst hn0
    go_enter Try.func38, Try.ntmps38
    have hnil : ∀ W, (binOp .eql 22 (.slice none 0 cap) (.slice none 0 0)).run Try.prog W = .ok (.bool true) W := fun W => rfl
    go_wp2
    go_ret
    exact ⟨_, rfl, none, 0, rfl, (Lay.nil w).lnil _ _ _⟩
  · obtain ⟨iI, hiI, hzI0, hzI1, hzI2⟩ := info_parts infoU32
    have HL : Hid (Lay w (w.alloc (.cells #[] 23)) [⟨some ⟨w.heap.size, 0, none⟩, 23, 1, 0, 0, fun j => .int .u32 (u j : Nat)⟩]) := Lib.hid ((Lay.nil w).new #[] 23 1 0 _ w.heap.size rfl rfl (by unfold maxLen; omega) (fun j hj => by omega))
    go_enter Try.func38, Try.ntmps38
    have hnil : ∀ W, (binOp .eql 22 (.slice (some ad) n cap) (.slice none 0 0)).run Try.prog W = .ok (.bool false) W := fun W => rfl
    go_wp2_with (first
      | (at_builtin; refine wpList_ap1 rfl (.tmp 5) (.tmp 6) _ rfl 23 iI _ 4 Try.underlying22 hiI hzI0 hzI1 hzI2 rfl w.heap.size rfl (HL.out.own 0 _ rfl) rfl ((HR.out.below (HL.out.bel.mono hB))) (fun _ _ => rfl) (fun j => .int .u32 (u j : Nat)) (fun _ _ => rfl) (fun j _ => by simp) n (by omega) (by unfold maxLen; omega) (by omega) HL.out.size ?_
         intro A2 cap2 w4 ho hg ha
         have H4 := Lib.hid (HL.out.app 0 rfl ho hg ha)
         clear ho hg ha HL)
      | fail)
    go_ret
    exact ⟨_, rfl, A2, cap2, rfl, H4.out⟩

set_option maxHeartbeats 400000 in
theorem betC_any (x s b : Nat) (w : World) (hc : w.cell? ⟨b, 0, none⟩ = some (.int .u32 s)) : Calls Try.prog 40 #[.int .u32 x, .pointer (some ⟨b, 0, none⟩)] w fun e w' => e = .returned (.bool (sub32 s x)) ∧ w = w' := by
  go_enter Try.func40, Try.ntmps40
  go_wp2
  go_ret
  exact ⟨rfl, rfl⟩
set_option maxHeartbeats 400000 in
theorem index_Better (s : Nat) (A : Option Addr) (m cap B b : Nat) (f : Nat → Nat) (w : World) (hm : m ≤ maxLen) (hr : Rd w B A m (fun j => .int .u32 (f j : Nat))) (hb : w.cell? ⟨b, 0, none⟩ = some (.int .u32 s)) :
    Calls Try.prog 45 #[.slice A m cap, .func (.func 40) #[] #[.pointer (some ⟨b, 0, none⟩)]] w fun e w' => e = .returned (.int .i64 (idxTo (fun j => sub32 s (f j)) m)) ∧ w = w' := by
  unfold maxLen at hm
  have HR := Lib.hid hr; clear hr
  have HB := Lib.hid hb; clear hb
  have HC := Lib.hid (fun (x : Nat) => betC_any x s b _ HB.out)
  go_enter Try.func45, Try.ntmps45
  go_wp2
  go_loop [8] (fun i => ∃ k : Nat, k ≤ m ∧ i = .int .i64 k ∧ ∀ j, j < k → sub32 s (f j) = false) (fun i => m - (intOf i).toNat)
  case atStart => exact ⟨0, by omega, rfl, fun j hj => absurd hj (by omega)⟩
  case round =>
    obtain ⟨k, hk, rfl, hall⟩ := hrel
    have HA := Lib.hid hall; clear hall
    by_cases hlt : k < m
    · obtain ⟨ad, rfl, _, hc⟩ := HR.out (by omega)
      have hck := hc k hlt
      clear hc
      cases hq : sub32 s (f k)
      all_goals
        have HQ := Lib.hid hq; clear hq
        go_wp2_with (go_at_call 40; refine (bool_is (HC.out (f k)) HQ.out).mono ?_; rintro e w' ⟨rfl, rfl⟩)
        first
          | (go_ret; exact ⟨ret_int (idxTo_hit hlt HQ.out HA.out).symm, rfl⟩)
          | (go_round
             case rel => exact ⟨k + 1, by omega, by go_num, fun j hj => (Nat.lt_succ_iff_lt_or_eq.1 hj).elim (HA.out j) (fun e => by subst e; exact HQ.out)⟩
             case measure => simp [intOf]; omega)
    · obtain rfl : k = m := by omega
      go_wp2
      go_ret
      exact ⟨ret_int (idxTo_miss HA.out).symm, rfl⟩

theorem Own.less {w : World} {base : Nat} {e : TypeId} {size : Nat} {A : Option Addr} {n n' cap : Nat} {f : Nat → Value} (h : Own w base e size A n cap f) (hn : n' ≤ n) : Own w base e size A n' cap f := by
  rcases h with ⟨rfl, h0, h1⟩ | ⟨g, cur, rfl, hb, hg, h1, h2, h3, hf⟩
  · exact .inl ⟨rfl, by omega, h1⟩
  · exact .inr ⟨g, cur, rfl, hb, hg, by omega, h2, h3, fun j hj => hf j (Nat.lt_of_lt_of_le hj (Nat.mul_le_mul_right _ hn))⟩
theorem Lay.less {w0 w : World} {R : List LRow} {A : Option Addr} {ty : TypeId} {sz n n' cap : Nat} {F : Nat → Value} (h : Lay w0 w (⟨A, ty, sz, n, cap, F⟩ :: R)) (hn : n' ≤ n) : Lay w0 w (⟨A, ty, sz, n', cap, F⟩ :: R) := by
  have key : ∀ (k : Nat) (r : LRow), (⟨A, ty, sz, n', cap, F⟩ :: R : List LRow)[k]? = some r → ∃ s, (⟨A, ty, sz, n, cap, F⟩ :: R : List LRow)[k]? = some s ∧ s.a = r.a := by
    intro k r hk
    rcases k with _ | k
    · obtain rfl : (⟨A, ty, sz, n', cap, F⟩ : LRow) = r := by simpa using hk
      exact ⟨_, rfl, rfl⟩
    · exact ⟨r, hk, rfl⟩
  refine ⟨fun k r hk => ?_, fun i j r s hij hi hj => ?_, h.bel⟩
  · rcases k with _ | k
    · obtain rfl : (⟨A, ty, sz, n', cap, F⟩ : LRow) = r := by simpa using hk
      exact (h.own 0 _ rfl).less hn
    · exact h.own (k + 1) r hk
  · obtain ⟨r', hr, er⟩ := key i r hi
    obtain ⟨s', hs, es⟩ := key j s hj
    rw [← er, ← es]
    exact h.ap i j r' s' hij hr hs
theorem Lay.clear {w0 : World} {R : List LRow} {g : Nat} {ty : TypeId} {n cap : Nat} : ∀ (vs : List Value) (o : Nat) (w : World) (F : Nat → Value), o + vs.length ≤ n → Lay w0 w (⟨some ⟨g, 0, none⟩, ty, 1, n, cap, F⟩ :: R) →
    ∃ F' : Nat → Value, (∀ j, j < o → F' j = F j) ∧ Lay w0 (w.setCells g o vs) (⟨some ⟨g, 0, none⟩, ty, 1, n, cap, F'⟩ :: R)
  | [], o, w, F, _, h => ⟨F, fun _ _ => rfl, h⟩
  | v :: vs, o, w, F, ho, h => by
    simp only [List.length_cons] at ho
    obtain ⟨F', h1, h2⟩ := Lay.clear vs (o + 1) (w.setCell ⟨g, o, none⟩ v) (fun t => if t = o then v else F t) (by omega) (h.set 0 _ rfl (by omega) (by simp) (fun i _ hi => by simp [hi]))
    exact ⟨F', fun j hj => by rw [h1 j (by omega), if_neg (by omega)], h2⟩
end Go.Proofs.Ytgjmnnbcclgahaa
