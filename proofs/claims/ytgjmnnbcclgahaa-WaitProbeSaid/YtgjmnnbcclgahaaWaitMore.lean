/- The law WaitMore, walked. -/
import Derived.Test.YtgjmnnbcclgahaaWaitMath
import Derived.Test.YtgjmnnbcclgahaaInside
import Derived.Test.YtgjmnnbcclgahaaBit
import Derived.Test.YtgjmnnbcclgahaaOwn
set_option linter.unusedVariables false
set_option linter.unusedSimpArgs false
namespace Go.Proofs.Ytgjmnnbcclgahaa
open Go.RowKit

set_option maxHeartbeats 400000 in
theorem waitMore_bad (A : Option Addr) (n cap B : Nat) (f : Nat → Nat) (i j : Int) (w : World) (hm : n ≤ maxLen) (hr : Rd w B A n (fun j => .int .u32 (f j : Nat))) (hbad : waitCode f n ≠ 0) :
    Calls Try.prog 3 #[.slice A n cap, .int .i64 i, .int .i64 j] w fun e w' => e = .returned (.bool true) ∧ Below w.heap.size w w' := by
  have HR := Lib.hid hr; clear hr
  have HM := Lib.hid hm; clear hm
  have HB := Lib.hid hbad
  have hb' : (waitCode f n == 0) = false := beq_eq_false_iff_ne.2 hbad
  have hb2 : (waitCode f n != 0) = true := by simpa using hbad
  clear hbad
  go_enter Try.func3, Try.ntmps3
  go_wp2_with (first | (go_at_call 10; refine (allAll_bad A n cap B f _ HM.out HR.out HB.out).mono ?_; rintro e w' ⟨rfl, rfl⟩) | (go_at_call 11; refine (waited_any A n cap B f _ HM.out HR.out).mono ?_; rintro e w' ⟨rfl, rfl⟩))
  go_ret
  exact ⟨rfl, Below.refl _ _⟩

theorem infoU32 : (Try.prog.info? 23).map (fun i => (i.zero, i.size, i.bytes)) = some (some (.int .u32 0), 1, 4) := by kernel_rfl
def two (i j : Int) : Nat → Int := fun t => if t = 0 then i else j
theorem two_cells (i j : Int) : ∀ t, t < 2 → (#[Value.int .i64 i, .int .i64 j])[t]? = some (.int .i64 (two i j t)) := by
  intro t ht
  match t, ht with
  | 0, _ => rfl
  | 1, _ => rfl

set_option maxHeartbeats 400000 in
theorem waitMore_out (A : Option Addr) (n cap B : Nat) (f : Nat → Nat) (i j : Int) (w : World) (hm : n ≤ maxLen) (hr : Rd w B A n (fun j => .int .u32 (f j : Nat))) (hgood : waitCode f n = 0)
    (hout : insideB n (two i j) 2 = false) :
    Calls Try.prog 3 #[.slice A n cap, .int .i64 i, .int .i64 j] w fun e w' => e = .returned (.bool true) ∧ Below w.heap.size w w' := by
  have HR := Lib.hid hr; clear hr
  have HM := Lib.hid hm; clear hm
  have HB := Lib.hid hgood
  have HO := Lib.hid hout; clear hout
  go_enter Try.func3, Try.ntmps3
  go_wp2_with (first | (go_at_call 10; refine (allAll_any A n cap B f _ HM.out HR.out HB.out).mono ?_; rintro e w' ⟨rfl, rfl⟩) | (go_at_call 11; refine (waited_any A n cap B f _ HM.out HR.out).mono ?_; rintro e w' ⟨rfl, rfl⟩) | (go_at_call 12; refine (inside_is false _ _ 2 2 _ (two i j) _ (by unfold maxLen; omega) (cell_new _ _ _ _ _ rfl (two_cells i j)) HO.out).mono ?_; rintro e w' ⟨rfl, rfl⟩))
  go_ret
  exact ⟨rfl, (Below.refl _ _).alloc (Nat.le_refl _) _⟩

set_option maxHeartbeats 400000 in
theorem waitMore_good (A : Option Addr) (n cap B : Nat) (f : Nat → Nat) (i j : Nat) (w : World) (hm : n ≤ maxLen) (hr : Rd w B A n (fun j => .int .u32 (f j : Nat))) (hgood : waitCode f n = 0)
    (hi : i < n) (hj : j < n) (hB : B ≤ w.heap.size) :
    Calls Try.prog 3 #[.slice A n cap, .int .i64 i, .int .i64 j] w fun e w' => e = .returned (.bool true) ∧ Below w.heap.size w w' := by
  have HR := Lib.hid hr; clear hr
  have HM := Lib.hid hm; clear hm
  have HB := Lib.hid hgood
  obtain ⟨h1, h6⟩ := waitCode_ok hgood
  have HO := Lib.hid (insideB_iff.2 (show ∀ t, t < 2 → 0 ≤ two i j t ∧ two i j t < n by intro t _; unfold two; split <;> omega))
  obtain ⟨i0, hi0, hz0, hz1, hz2⟩ := info_parts infoU32
  go_enter Try.func3, Try.ntmps3
  go_wp2_with (first
    | (go_at_call 10; refine (allAll_any A n cap B f _ HM.out HR.out HB.out).mono ?_; rintro e w' ⟨rfl, rfl⟩)
    | (go_at_call 11; refine (waited_any A n cap B f _ HM.out HR.out).mono ?_; rintro e w' ⟨rfl, rfl⟩)
    | (go_at_call 12; refine (inside_is true _ _ 2 2 _ (two i j) _ (by unfold maxLen; omega) (cell_new _ _ _ _ _ rfl (two_cells i j)) HO.out).mono ?_; rintro e w' ⟨rfl, rfl⟩)
    | (at_builtin; refine wpList_ap1 rfl (.tmp 38) (.tmp 39) _ rfl 23 i0 _ 4 Try.underlying22 hi0 hz0 hz1 hz2 rfl w.heap.size rfl (Own.empty _ _ _ _ (fun _ => undef) _ (by simp) (by simp)) rfl ((HR.out.alloc hB _).alloc (by simp; omega) _) (fun _ _ => rfl) (fun j => .int .u32 (f j : Nat)) (fun j hj => absurd hj (by omega)) (fun j _ => by rw [Nat.zero_add]) n (Nat.zero_add n) (by unfold maxLen; omega) (by omega) (by simp; omega) ?_; intro A1 c1 w1 hown1 hg1 ha1
       have HB1 : Hid (Below w.heap.size w w1) := ((((Below.refl _ _).alloc (Nat.le_refl _) _).alloc (by simp) _).grown hg1 (by simp; omega) (by intro k hk; simp [ablock] at hk; omega))
       have HW1 := Lib.hid hown1; clear hown1 hg1 ha1
       obtain ⟨g1, rfl, hb1, hlt1, hc1, hf1⟩ := HW1.out.pos1 (by omega)
       have hci := hc1 i hi
       have hfi := hf1 i
       clear hc1 hf1))
  have HF := Lib.hid (waitCode_lt hgood)
  have HO2 := Lib.hid (or_pow (small_of h6 (HF.out i hi)) (by omega : j < 32))
  have HM1 := Lib.hid (waitCode_good h1 h6 (moreF_lt HF.out hi hj))
  have HW2 := Lib.hid (HW1.out.set1 (j := i) (f' := fun k => .int .u32 (moreF f i j k : Nat)) (.int .u32 (bits .or .u32 (f i) (2 ^ j % 4294967296))) hi (by rw [HO2.out]; simp [moreF]) (fun k _ hk => by simp [moreF, hk]))
  have hsz : w.heap.size ≤ w1.heap.size := HB1.out.size
  have HB2 : Hid (Below w.heap.size w (w1.setCell ⟨g1, i, none⟩ (.int .u32 (bits .or .u32 (f i) (2 ^ j % 4294967296))))) := HB1.out.setCell hb1 _
  refine (allAll_any _ n c1 _ (moreF f i j) _ HM.out HW2.out.rd1 HM1.out).mono ?_
  rintro e w' ⟨rfl, rfl⟩
  clear hci hfi
  go_wp2_with
      (at_builtin; refine wpList_ap1 rfl (.tmp 57) (.tmp 58) _ rfl 23 i0 _ 4 Try.underlying22 hi0 hz0 hz1 hz2 rfl w.heap.size rfl (Own.empty _ _ _ _ (fun _ => undef) _ (by simp) (by simpa using hsz)) rfl (((HR.out.more hB).below HB2.out).alloc (by simpa using hsz) _) (fun _ _ => rfl) (fun j => .int .u32 (f j : Nat)) (fun j hj => absurd hj (by omega)) (fun j _ => by rw [Nat.zero_add]) n (Nat.zero_add n) (by unfold maxLen; omega) (by omega) (by simp; omega) ?_; intro A3 c3 w3 hown3 hg3 ha3
       have HB3 : Hid (Below w.heap.size w w3) := (HB2.out.alloc (by simpa using hsz) _).grown hg3 (by simp; omega) (by intro k hk; simp [ablock] at hk; omega)
       have HW3 := Lib.hid hown3; clear hown3 hg3 ha3
       obtain ⟨g3, rfl, hb3, hlt3, hc3, hf3⟩ := HW3.out.pos1 (by omega)
       have hci := hc3 i hi
       have hfi := hf3 i
       clear hc3 hf3)
  have HM3 := Lib.hid (waitCode_good h1 h6 (ownF_lt HF.out hi))
  have HP := Lib.hid (pow_mod (m := i) (by omega))
  have HW4 := Lib.hid (HW3.out.set1 (j := i) (f' := fun k => .int .u32 (ownF f i k : Nat)) (.int .u32 (2 ^ i % 4294967296)) hi (by rw [HP.out]; simp [ownF]) (fun k _ hk => by simp [ownF, hk]))
  have HB4 : Hid (Below w.heap.size w (w3.setCell ⟨g3, i, none⟩ (.int .u32 (2 ^ i % 4294967296)))) := HB3.out.setCell hb3 _
  refine (allAll_any _ n c3 _ (ownF f i) _ HM.out HW4.out.rd1 HM3.out).mono ?_
  rintro e w' ⟨rfl, rfl⟩
  clear hci hfi
  have HT := Lib.hid (own_law h6 HF.out hi)
  have hlaw := more_law (j := j) h6 HF.out hi hj
  go_wp2_with (go_at_call 13; refine (bit_is true _ _ _ (small_of h6 (stuckAll_lt _ _)) (by rw [bitB_nat]; exact HT.out)).mono ?_; rintro e w' ⟨rfl, rfl⟩)
  go_ret
  exact ⟨rfl, HB4.out⟩
end Go.Proofs.Ytgjmnnbcclgahaa
