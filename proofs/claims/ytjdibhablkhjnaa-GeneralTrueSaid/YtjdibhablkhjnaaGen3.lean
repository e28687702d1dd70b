/- The walk of general.Play. -/
import Derived.Test.YtjdibhablkhjnaaGen2
import Derived.Test.YtjdibhablkhjnaaHeap
set_option linter.unusedVariables false
set_option linter.unusedSimpArgs false
namespace Go.Proofs.Ytjdibhablkhjnaa
open Go.RowKit

theorem infoBool : (Try.prog.info? 4).map (fun i => (i.zero, i.size, i.bytes)) = some (some (.bool false), 1, 1) := by kernel_rfl
/-- What Play tells host j. -/
def gb (c : Camp) (j : Nat) : Bool := if j = 0 then c.ord else bel c c.d [0] j
/-- Between the rounds. -/
structure GP (w wr : World) (c : Camp) (A : Option Addr) (cap i : Nat) (A' : Option Addr) (cap' : Nat) : Prop where
  camp : CampAt wr w.heap.size c A cap
  path : PathAt wr [0] (w.heap.size + 1)
  own : Own wr (w.heap.size + 2) 4 1 A' i cap' (fun j => .bool (gb c j))
  bel : Below w.heap.size w wr
theorem GP.step {w wr w1 w2 : World} {c : Camp} {A : Option Addr} {cap i : Nat} {A' : Option Addr} {cap' : Nat} {A2 : Option Addr} {c2 : Nat} {o : Obj} (h : GP w wr c A cap i A' cap') (hb : Below wr.heap.size wr w1) (hg : (w1.alloc o).grownBy w2 (ablock A'))
    (ho : Own w2 (w.heap.size + 2) 4 1 A2 (i + 1) c2 (fun j => .bool (gb c j))) : GP w w2 c A cap (i + 1) A2 c2 := by
  have hk : ∀ k, k < w.heap.size + 2 → k < wr.heap.size → w2.heap[k]? = wr.heap[k]? := fun k h1 h2 => by
    have h3 := hb.size
    rw [hg.block k (by simp; omega) (fun e => by have := (h.own.lt k e.symm).1; omega), Below.heap_alloc _ _ k (by omega)]
    exact hb.block k h2
  have hc := h.camp.lt
  have hp := h.path.lt
  refine ⟨(hk _ (by omega) hc).trans h.camp, ?_, ho, ?_⟩
  · obtain ⟨fr, h1, h2⟩ := h.path
    exact ⟨fr, (hk _ (by omega) hp).trans h1, .inl rfl⟩
  · have hb1 := h.bel.trans (hb.mono h.bel.size)
    exact (hb1.alloc hb1.size o).grown hg (by have := hb1.size; simp; omega) (fun k hk => by have := (h.own.lt k hk).1; omega)

theorem GP.start (w : World) (c : Camp) (A : Option Addr) (cap : Nat) :
    GP w (((w.alloc (.cells #[.int .i64 c.n, .int .i64 c.d, .bool c.ord, .int .u32 c.L, .slice A c.nl cap] 32)).alloc (.cells #[.int .u32 1, .int .i64 0, .int .i64 1, .int .i64 0, .pointer none] 35)).alloc (.cells #[.bool c.ord] 4)) c A cap 1 (some ⟨w.heap.size + 2, 0, none⟩) 1 := by
  refine ⟨?_, ⟨none, ?_, .inl rfl⟩, ?_, (((Below.refl _ _).alloc (Nat.le_refl _) _).alloc (by simp) _).alloc (by simp; omega) _⟩
  · show _[_]? = _
    rw [heap_old _ _ (by simp; omega), heap_old _ _ (by simp), heap_new _ _ rfl]
  · rw [heap_old _ _ (by simp), heap_new _ _ (by simp)]
    rfl
  · exact Own.made _ _ _ 1 1 _ _ _ (by simp) (by simp) rfl (by unfold maxLen; omega) (fun j hj => by obtain rfl : j = 0 := by omega
                                                                                                     rfl)
set_option maxRecDepth 100000 in
set_option maxHeartbeats 3200000 in
theorem gen_good (c : Camp) (hc : CampOk c) (A : Option Addr) (cap B : Nat) (w : World) (hB : B ≤ w.heap.size) (hr : Rd w B A c.nl (fun j => .bool (c.lies j))) :
    Calls Try.prog 5 #[.int .i64 c.n, .int .i64 c.d, .bool c.ord, .int .u32 c.L, .slice A c.nl cap] w (Gives fun v w' => ∃ A' cap', v = .tuple #[.slice A' c.n cap', .int .i64 0] ∧ Own w' w.heap.size 4 1 A' c.n cap' (fun j => .bool (gb c j)) ∧ Below w.heap.size w w') := by
  have HR := Lib.hid hr; clear hr
  have HO := Lib.hid hc
  have h1 := hc.n.1
  have h7 := hc.n.2
  have hd := hc.d
  have hbig := hc.big
  have hs1 : ((c.L : Int) / 2 ^ c.n != 0) = false := by rw [shr_eq]; have := hc.L; simpa using this
  have hs2 : (∃ b, ((c.L : Int) != 0) = b ∧ (b = true → ((c.nl : Int) == 0) = false)) := by
    refine ⟨_, rfl, fun h => beq_eq_false_iff_ne.2 ?_⟩
    have := hc.nl (fun e => by rw [e] at h; simp at h)
    omega
  obtain ⟨bl, hbl, hnl⟩ := hs2
  clear hc
  obtain ⟨iB, hiB, hzB0, hzB1, hzB2⟩ := info_parts infoBool
  cases bl
  all_goals
    try (have hz := hnl rfl)
    clear hnl
    go_enter Try.func5, Try.ntmps5
    go_wp2
    refine at_world (F := fun W' => Code.wp _ _ _ _ W') (fun W => GP w W c A cap 1 (some ⟨w.heap.size + 2, 0, none⟩) 1) (GP.start w c A cap) ?_
    intro W hW
    have HW := Lib.hid hW
    clear hW
    go_loopw [14, 15] (fun out i wr => ∃ (j : Nat) (A' : Option Addr) (cap' : Nat), 1 ≤ j ∧ j ≤ c.n ∧ i = .int .i64 j ∧ out = .slice A' j cap' ∧ Hid (GP w wr c A cap j A' cap')) (fun _ i _ => c.n - (intOf i).toNat)
    case atStart => exact ⟨1, _, _, by omega, by omega, rfl, rfl, HW⟩
    case round =>
      clear HW
      obtain ⟨j, A', cap', hj1, hj, rfl, rfl, HQ⟩ := hrel
      have hz := HQ.out.bel.size
      by_cases hlt : j < c.n
      · have HG : Hid (gb c j = bel c c.d [0] j) := by show _ = _; unfold gb; rw [if_neg (by omega)]
        go_wp2_with fail
        refine (believes_any c HO.out A cap B w.heap.size c.d [0] (w.heap.size + 1) j wr (start_ok h1) (by simp; omega) hlt HQ.out.camp HQ.out.path (HR.out.below (HQ.out.bel.mono hB)) (by omega)).mono ?_
        rintro e w1 ⟨rfl, hb1⟩
        rw [← HG.out]
        have HB1 := Lib.hid hb1
        have hz1 := hb1.size
        have HO1 := Lib.hid (HQ.out.own.below hb1 (fun k hk => (HQ.out.own.lt k hk).2))
        clear hb1
        go_wp2_with (at_builtin; refine wpList_ap1 rfl (.tmp 60) (.tmp 65) _ rfl 4 iB _ 1 Try.underlying23 hiB hzB0 hzB1 hzB2 rfl (w.heap.size + 2) rfl (HO1.out.alloc _) rfl (cell_new _ _ _ _ _ rfl (one_cell _)) (fun _ _ => rfl) (fun i => .bool (gb c i)) (fun _ _ => rfl) (one_at rfl) (j + 1) rfl (by unfold maxLen; omega) (by omega) (by have := HQ.out.path.lt; simp; omega) ?_; intro A2 cap2 w2 ho2 hg2 ha2)
        have HQ2 := Lib.hid (HQ.out.step HB1.out hg2 ho2)
        clear ho2 hg2 ha2
        go_roundw
        case rel => exact ⟨j + 1, A2, cap2, by omega, by omega, by go_num, rfl, HQ2⟩
        case measure => simp [intOf]; omega
      · obtain rfl : j = c.n := by omega
        go_wp2
        go_ret2
        exact ⟨_, rfl, A', cap', rfl, HQ.out.own.base_le (by omega), HQ.out.bel⟩
theorem gen_bad (n d : Int) (o : Bool) (L : Nat) (A : Option Addr) (nl cap : Nat) (w : World) (hL : L < 4294967296) (hnl : nl ≤ maxLen) (hbad : ¬ (1 ≤ n ∧ n ≤ 7 ∧ 0 ≤ d ∧ d ≤ 2 ∧ L < 2 ^ n.toNat ∧ (L ≠ 0 → 0 < nl))) :
    Calls Try.prog 5 #[.int .i64 n, .int .i64 d, .bool o, .int .u32 L, .slice A nl cap] w fun e w' => ∃ x : Int, e = .returned (.tuple #[.slice none 0 0, .int .i64 x]) ∧ (x != 0) = true ∧ w = w' := by
  unfold maxLen at hnl
  by_cases hn : 1 ≤ n ∧ n ≤ 7
  · obtain ⟨k, rfl⟩ := Int.eq_ofNat_of_zero_le (by omega : 0 ≤ n)
    have h1 : 1 ≤ k := by omega
    have h7 : k ≤ 7 := by omega
    by_cases hd : 0 ≤ d ∧ d ≤ 2
    · obtain ⟨hd1, hd2⟩ := hd
      cases hs : ((L : Int) / 2 ^ k != 0)
      · have hs2 := div_pow_zero hs
        have hL0 : ((L : Int) != 0) = true := by
          rw [bne_iff_ne]
          intro h0
          exact hbad ⟨hn.1, hn.2, hd1, hd2, by simpa using hs2, fun h => by omega⟩
        have hz : nl = 0 := Nat.eq_zero_of_not_pos fun h => hbad ⟨hn.1, hn.2, hd1, hd2, by simpa using hs2, fun _ => h⟩
        subst hz
        clear hbad hs2 hn
        go_enter Try.func5, Try.ntmps5
        go_wp2
        go_ret2
        exact ⟨_, rfl, by decide, rfl⟩
      · clear hbad hn
        go_enter Try.func5, Try.ntmps5
        go_wp2
        go_ret2
        exact ⟨_, rfl, by decide, rfl⟩
    · have hd' : d < 0 ∨ 2 < d := by omega
      clear hbad hn hd
      rcases hd' with hd' | hd'
      all_goals
        go_enter Try.func5, Try.ntmps5
        go_wp2
        go_ret2
        exact ⟨_, rfl, by decide, rfl⟩
  · have hn' : n < 1 ∨ 7 < n := by omega
    clear hbad hn
    rcases hn' with hn' | hn'
    all_goals
      go_enter Try.func5, Try.ntmps5
      go_wp2
      go_ret2
      exact ⟨_, rfl, by decide, rfl⟩
end Go.Proofs.Ytjdibhablkhjnaa
