/- The law RunSwap, walked. -/
import Derived.Test.YtkdookhblbjddaaAgain
namespace Go.Proofs.Ytkdookhblbjddaa
open Go.RowKit Go.Maps

theorem infoInt : (Try.prog.info? 3).map (fun i => (i.zero, i.size, i.bytes)) = some (some (.int .i64 0), 1, 8) := by kernel_rfl

def swapU (i : Nat) : Nat → Nat := fun t => if t = i then i + 1 else if t = i + 1 then i else t
theorem id_fit (len : Nat) : ∀ t, t < len → id t < len ∧ ∀ s, s < t → id s ≠ id t := fun t ht => ⟨ht, fun s hs => by simp; omega⟩
theorem swap_fit {len i : Nat} (hi : i + 1 < len) : ∀ t, t < len → swapU i t < len ∧ ∀ s, s < t → swapU i s ≠ swapU i t := by
  intro t ht
  unfold swapU
  constructor
  · split
    · omega
    · split <;> omega
  · intro s hs
    split <;> split <;> (try split) <;> (try split) <;> omega
theorem id_ok {n : Int} {E : Ev} {len : Nat} (hg : runCode n E len = 0) : agOk E id len = true := by
  rw [agOk_iff (u := id) hg (fun s hs => hs) (Nat.le_refl _)]
  intro s hs i hi
  exact ⟨i, hi.lt, rfl⟩
theorem swap_ok {n : Int} {E : Ev} {len i : Nat} (hg : runCode n E len = 0) (hi : i + 1 < len) : agOk E (swapU i) len = !(pastW E (i + 1)).testBit i := by
  rw [Bool.eq_iff_iff, agOk_iff hg (fun s hs => (swap_fit hi s hs).1) (Nat.le_refl _), Bool.not_eq_true', ← Bool.not_eq_true]
  constructor
  · intro h hb
    obtain ⟨r, hr, e⟩ := h i (by omega) i (by simpa [swapU] using (show Hb E i (i + 1) from hb))
    unfold swapU at e
    rw [if_neg (by omega), if_neg (by omega)] at e
    omega
  · intro h s hs a ha
    have key : ∀ b, b < s → b ≠ i → b ≠ i + 1 → ∃ r, r < s ∧ swapU i r = b := fun b h1 h2 h3 => ⟨b, h1, by simp [swapU, h2, h3]⟩
    by_cases h1 : s = i
    · subst h1
      have e : swapU s s = s + 1 := by simp [swapU]
      rw [e] at ha
      have hlt := ha.lt
      have hne : a ≠ s := fun e2 => h (by rw [← e2]; subst e2; exact ha)
      exact key a (by omega) (by omega) (by omega)
    · by_cases h2 : s = i + 1
      · subst h2
        have e : swapU i (i + 1) = i := by simp [swapU]
        rw [e] at ha
        have hlt := ha.lt
        exact key a (by omega) (by omega) (by omega)
      · have e : swapU i s = s := by simp [swapU, h1, h2]
        rw [e] at ha
        have hlt := ha.lt
        by_cases h3 : a = i
        · subst h3
          exact ⟨a + 1, by omega, by simp [swapU]⟩
        · by_cases h4 : a = i + 1
          · subst h4
            exact ⟨i, by omega, by simp [swapU]⟩
          · exact key a hlt h3 h4

set_option maxRecDepth 100000 in
set_option maxHeartbeats 1600000 in
theorem runSwap_bad (n : Int) (k : Nat) (A : Option Addr) (len cap : Nat) (E : Ev) (w : World) (_ : k < 256) (hlc : len ≤ cap) (hm : cap * 24 ≤ 140737488351232) (hr : Rd w w.heap.size A (len * 3) (evF E)) (hbad : runCode n E len ≠ 0) :
    Calls Try.prog 6 #[.int .i64 n, .slice A len cap, .int .u8 k] w fun e w' => e = .returned (.bool true) ∧ Below w.heap.size w w' := by
  have HR := Lib.hid hr; clear hr
  have HM : Hid (len ≤ maxLen) := by show len ≤ maxLen; unfold maxLen; omega
  obtain ⟨i0, hi0, hz0, hz1, hz2⟩ := info_parts infoInt
  have HBAD := Lib.hid hbad
  have hb2 : (runCode n E len != 0) = true := bne_iff_ne.2 hbad
  have HQ : Hid ((runCode n E len == 0) = false) := beq_eq_false_iff_ne.2 hbad
  clear hbad
  go_enter Try.func6, Try.ntmps6
  go_wp2_with (at_make; refine wpList_mk1 rfl (.tmp 15) (.tmp 15) _ rfl 3 i0 _ 8 Try.underlying34 hi0 hz0 hz1 hz2 rfl .i64 .i64 len rfl rfl (by omega) (by unfold maxLen; omega) w.heap.size w.heap.size rfl (Nat.le_refl _) ?_; intro w1 ho1 he1; have HO1 := Lib.hid ho1; have HE1 := Lib.hid he1; clear ho1 he1)
  go_loopw [8] (fun i wr => ∃ t : Nat, t ≤ len ∧ i = .int .i64 t ∧ Hid (Below w.heap.size w wr) ∧ w.heap.size < wr.heap.size ∧ Hid (Own wr w.heap.size 3 1 (some ⟨w.heap.size, 0, none⟩) len len (fun s => .int .i64 ((if s < t then s else 0 : Nat))))) (fun i _ => len - (intOf i).toNat)
  case atStart =>
    refine ⟨0, by omega, rfl, ?_, ?_, ?_⟩
    · show Below _ _ _
      rw [HE1.out]; exact (Below.refl _ _).alloc (Nat.le_refl _) _
    · rw [HE1.out]; simp
    · exact HO1.out.congr1 fun s _ => by simp
  case round =>
    obtain ⟨t, ht, rfl, HBr, hz, HO⟩ := hrel
    by_cases hlt : t < len
    · obtain ⟨hc1, hf1⟩ := HO.out.at1 hlt
      go_wp2
      go_roundw
      case rel =>
        refine ⟨t + 1, by omega, by go_num, HBr.out.setCell (by simp) _, by simpa [World.setCell] using hz, HO.out.set1 (j := t) _ hlt (by simp) fun s _ hs => ?_⟩
        by_cases h : s < t
        · rw [if_pos h, if_pos (by omega)]
        · rw [if_neg h, if_neg (by omega)]
      case measure => simp [intOf]; omega
    · obtain rfl : t = len := by omega
      have HID : Hid (Own wr w.heap.size 3 1 (some ⟨w.heap.size, 0, none⟩) t t (fun s => .int .i64 (id s : Nat))) := HO.out.congr1 fun s hs => by rw [if_pos hs]; rfl
      go_wp2_with fail
      refine (again_bad n A _ t cap t t w.heap.size E wr HM.out HBr.out.size (HR.out.below HBr.out) HBAD.out).mono ?_
      rintro e w2 ⟨rfl, hb2⟩
      have HB2 := Lib.hid (HBr.out.trans (hb2.mono HBr.out.size)); clear hb2
      go_wp2_with fail
      refine (bool_is_b (ran_any n A t cap w.heap.size E w2 hlc HM.out HB2.out.size (HR.out.below HB2.out)) HQ.out).mono ?_
      rintro e w3 ⟨rfl, hb3⟩
      have HB3 := Lib.hid (HB2.out.trans (hb3.mono HB2.out.size)); clear hb3
      go_wp2
      go_ret
      exact ⟨rfl, HB3.out⟩

set_option maxRecDepth 100000 in
set_option maxHeartbeats 1600000 in
theorem runSwap_good (n : Int) (k : Nat) (A : Option Addr) (len cap : Nat) (E : Ev) (w : World) (hk : k < 256) (hlc : len ≤ cap) (hm : cap * 24 ≤ 140737488351232) (hr : Rd w w.heap.size A (len * 3) (evF E)) (hgood : runCode n E len = 0) :
    Calls Try.prog 6 #[.int .i64 n, .slice A len cap, .int .u8 k] w fun e w' => e = .returned (.bool true) ∧ Below w.heap.size w w' := by
  have HR := Lib.hid hr; clear hr
  have HM : Hid (len ≤ maxLen) := by show len ≤ maxLen; unfold maxLen; omega
  obtain ⟨i0, hi0, hz0, hz1, hz2⟩ := info_parts infoInt
  have HG := Lib.hid hgood
  have hl30 : len ≤ 30 := (runCode_ok hgood).1.2.2
  have HQ : Hid ((runCode n E len == 0) = true) := by show _ = true; simp [hgood]
  clear hgood
  go_enter Try.func6, Try.ntmps6
  go_wp2_with (at_make; refine wpList_mk1 rfl (.tmp 15) (.tmp 15) _ rfl 3 i0 _ 8 Try.underlying34 hi0 hz0 hz1 hz2 rfl .i64 .i64 len rfl rfl (by omega) (by unfold maxLen; omega) w.heap.size w.heap.size rfl (Nat.le_refl _) ?_; intro w1 ho1 he1; have HO1 := Lib.hid ho1; have HE1 := Lib.hid he1; clear ho1 he1)
  go_loopw [8] (fun i wr => ∃ t : Nat, t ≤ len ∧ i = .int .i64 t ∧ Hid (Below w.heap.size w wr) ∧ w.heap.size < wr.heap.size ∧ Hid (Own wr w.heap.size 3 1 (some ⟨w.heap.size, 0, none⟩) len len (fun s => .int .i64 ((if s < t then s else 0 : Nat))))) (fun i _ => len - (intOf i).toNat)
  case atStart =>
    refine ⟨0, by omega, rfl, ?_, ?_, ?_⟩
    · show Below _ _ _
      rw [HE1.out]; exact (Below.refl _ _).alloc (Nat.le_refl _) _
    · rw [HE1.out]; simp
    · exact HO1.out.congr1 fun s _ => by simp
  case round =>
    obtain ⟨t, ht, rfl, HBr, hz, HO⟩ := hrel
    by_cases hlt : t < len
    · obtain ⟨hc1, hf1⟩ := HO.out.at1 hlt
      go_wp2
      go_roundw
      case rel =>
        refine ⟨t + 1, by omega, by go_num, HBr.out.setCell (by simp) _, by simpa [World.setCell] using hz, HO.out.set1 (j := t) _ hlt (by simp) fun s _ hs => ?_⟩
        by_cases h : s < t
        · rw [if_pos h, if_pos (by omega)]
        · rw [if_neg h, if_neg (by omega)]
      case measure => simp [intOf]; omega
    · obtain rfl : t = len := by omega
      have HID : Hid (Own wr w.heap.size 3 1 (some ⟨w.heap.size, 0, none⟩) t t (fun s => .int .i64 (id s : Nat))) := HO.out.congr1 fun s hs => by rw [if_pos hs]; rfl
      have HG2 := Lib.hid HG.out
      go_wp2_with fail
      refine (again_is true n A _ t cap t wr.heap.size E id wr HM.out (Nat.le_refl _) ((HR.out.below HBr.out).more HBr.out.size) HID.out.rd1 HG.out (id_fit t) (id_ok HG.out)).mono ?_
      rintro e w2 ⟨rfl, hb2⟩
      have HB2 := Lib.hid (HBr.out.trans (hb2.mono HBr.out.size))
      have HI2 := Lib.hid (HID.out.below hb2 (by intro k hk; simp [ablock] at hk; omega))
      have hz2 : w.heap.size < w2.heap.size := Nat.lt_of_lt_of_le hz hb2.size
      clear hb2
      go_wp2_with fail
      refine (bool_is_b (ran_any n A t cap w2.heap.size E w2 hlc HM.out (Nat.le_refl _) ((HR.out.below HB2.out).more HB2.out.size)) HQ.out).mono ?_
      rintro e w3 ⟨rfl, hb3⟩
      have HB3 := Lib.hid (HB2.out.trans (hb3.mono HB2.out.size))
      have HI3 := Lib.hid (HI2.out.below hb3 (by intro k hk; simp [ablock] at hk; omega))
      have hz3 : w.heap.size < w3.heap.size := Nat.lt_of_lt_of_le hz2 hb3.size
      clear hb3
      by_cases hsm : t < 2
      · go_wp2
        go_ret
        exact ⟨rfl, HB3.out⟩
      · obtain ⟨q, hq1, hq2⟩ : ∃ q : Nat, ((k : Int) % ((t : Int) - 1)) = (q : Int) ∧ q + 1 < t := by
          refine ⟨k % (t - 1), ?_, ?_⟩
          · have e : ((t : Int) - 1) = ((t - 1 : Nat) : Int) := by omega
            rw [e]; simp
          · have := Nat.mod_lt k (show 0 < t - 1 by omega); omega
        obtain ⟨hca, hfa⟩ := HI3.out.at1 (show q < t by omega)
        obtain ⟨hcb, hfb⟩ := HI3.out.at1 (show q + 1 < t by omega)
        have HSW := Lib.hid (swap_ok HG.out hq2)
        obtain ⟨a, ha⟩ : ∃ a, (pastW E (q + 1)).testBit q = a := ⟨_, rfl⟩
        have HA := Lib.hid ha; clear ha
        go_wp2_with fail
        have HI4 := Lib.hid (((HI3.out.set1 (j := q) (f' := fun s => .int .i64 ((if s = q then q + 1 else s : Nat))) (.int .i64 ((q : Int) + 1)) (by omega) (by simp) (fun s _ hs => by simp [hs])).set1 (j := q + 1) (f' := fun s => .int .i64 (swapU q s : Nat)) (.int .i64 (q : Int)) hq2 (by simp [swapU]) (fun s _ hs => by simp [swapU, hs])))
        have hb4 : Below w.heap.size w ((w3.setCell ⟨w.heap.size, q, none⟩ (.int .i64 ((q : Int) + 1))).setCell ⟨w.heap.size, q + 1, none⟩ (.int .i64 (q : Int))) := (HB3.out.setCell (by simp) _).setCell (by simp) _
        clear hca hfa hcb hfb
        generalize (w3.setCell ⟨w.heap.size, q, none⟩ (.int .i64 ((q : Int) + 1))).setCell ⟨w.heap.size, q + 1, none⟩ (.int .i64 (q : Int)) = w4 at HI4 hb4 ⊢
        have HB4 := Lib.hid hb4; clear hb4
        have HV : Hid (agOk E (swapU q) t = !a) := by show _ = !a; rw [HSW.out, HA.out]
        refine (again_is (!a) n A _ t cap t w4.heap.size E (swapU q) w4 HM.out (Nat.le_refl _) ((HR.out.below HB4.out).more HB4.out.size) HI4.out.rd1 HG.out (swap_fit hq2) HV.out).mono ?_
        rintro e w5 ⟨rfl, hb5⟩
        have HB5 := Lib.hid (HB4.out.trans (hb5.mono HB4.out.size)); clear hb5
        go_wp2_with fail
        refine (ahead_is a n q (q + 1) A t cap w.heap.size E w5 HM.out HB5.out.size (HR.out.below HB5.out) HG.out (by omega) hq2 HA.out).mono ?_
        rintro e w6 ⟨rfl, hb6⟩
        have HB6 := Lib.hid (HB5.out.trans (hb6.mono HB5.out.size)); clear hb6
        cases a
        all_goals
          go_wp2
          go_ret
          exact ⟨rfl, HB6.out⟩
theorem runSwap_all (n : Int) (A : Option Addr) (len cap : Nat) (E : Ev) (k : Int) (w : World) (_ : (Lit.int .i64 n).wf = true) (hmc : len ≤ cap ∧ cap * 24 ≤ 140737488351232) (hr : Rd w w.heap.size A (len * 3) (evF E))
    (hk : (Lit.int .u8 k).wf = true) :
    Calls Try.prog 6 #[.int .i64 n, .slice A len cap, .int .u8 k] w fun e w' => e = .returned (.bool true) ∧ Below w.heap.size w w' := by
  obtain ⟨k, rfl, hk2⟩ := u8_nat hk
  by_cases hc : runCode n E len = 0
  · exact runSwap_good n k A len cap E w hk2 hmc.1 hmc.2 hr hc
  · exact runSwap_bad n k A len cap E w hk2 hmc.1 hmc.2 hr hc
end Go.Proofs.Ytkdookhblbjddaa
