/- The walk of take. -/
import Derived.Test.YtcmbbioipbdonaaEc4
set_option linter.unusedVariables false
set_option linter.unusedSimpArgs false
namespace Go.Proofs.Ytcmbbioipbdonaa
open Go.RowKit

theorem sends_sends (a x : Nat) (l : List Nat) (s : ES) : sends a [x] (sends a l s) = sends a (l ++ [x]) s := by
  unfold sends
  simp [Nat.add_assoc]
theorem sends_nil (a : Nat) (s : ES) : sends a [] s = s := by
  unfold sends
  simp
theorem filt_yes {l : List Nat} {k f x : Nat} (hx : l[k]? = some x) (h : x ≠ f) : (l.take (k + 1)).filter (fun j => j != f) = (l.take k).filter (fun j => j != f) ++ [x] := by
  obtain ⟨hk, rfl⟩ := List.getElem?_eq_some_iff.1 hx
  rw [List.take_succ_eq_append_getElem hk, List.filter_append]
  simp [h]
theorem filt_no {l : List Nat} {k f : Nat} (hx : l[k]? = some f) : (l.take (k + 1)).filter (fun j => j != f) = (l.take k).filter (fun j => j != f) := by
  obtain ⟨hk, rfl⟩ := List.getElem?_eq_some_iff.1 hx
  rw [List.take_succ_eq_append_getElem hk, List.filter_append]
  simp
theorem filt_len (l : List Nat) (k f : Nat) : ((l.take k).filter (fun j => j != f)).length ≤ l.length := Nat.le_trans (List.length_filter_le _ _) (by rw [List.length_take]; omega)
/-- What take asks of the wave. -/
structure TakeOk (n t : Nat) (s : ES) : Prop where
  ht : t < n
  way : s.way.length ≤ 4000
  sent : s.sent ≤ 4000
  near : (s.near t).length ≤ 15
  w0 : -1000 ≤ s.wait t
  w1 : s.wait t ≤ 1000

set_option maxHeartbeats 1600000 in
theorem take_any (b gn n gt gf cf : Nat) (A : Option Addr) (cap : Nat) (fv : Nat → Value) (R : List LRow) (w0 : World) (s : ES) (w : World) (f t : Nat) (ho : TakeOk n t s) (h : LayW b gn n gt gf cf A cap fv R w0 s w) :
    Calls Try.prog 16 #[.pointer (some ⟨b, 0, none⟩), .int .i64 (f : Nat), .int .i64 (t : Nat)] w fun e w' => e = .returned (.tuple #[]) ∧ ∃ A' cap', LayW b gn n gt gf cf A' cap' fv R w0 (takeS f t s) w' := by
  obtain ⟨ht, hway, hsent, hnear, hw0, hw1⟩ := ho
  have HL := Lib.hid h; clear h
  have HTS0 : Hid (takeS f t s = takeC t (takeB t (takeA f t s))) := Lib.hid rfl
  have d3 := HL.out.lay.cellB 0 rfl 3 (by omega)
  have q4 := HL.out.lay.cell1 4 rfl (j := t) ht
  simp only [ofL_3] at d3
  by_cases hfr : s.frm t = -1
  · rw [hfr] at q4
    have hTA : takeA f t s = sends t ((s.near t).filter fun j => j != f) { s with frm := upd s.frm t (f : Nat) } := if_pos hfr
    have HTS : Hid (takeS f t s = takeC t (takeB t (sends t ((s.near t).filter fun j => j != f) { s with frm := upd s.frm t (f : Nat) }))) := Lib.hid (by rw [HTS0.out, hTA])
    clear HTS0 hTA
    obtain ⟨s1, hs1⟩ : ∃ s1, s1 = ({ s with frm := upd s.frm t (f : Nat) } : ES) := ⟨_, rfl⟩
    rw [← hs1] at HTS
    have hwe1 : s1.wait t = s.wait t := by rw [hs1]
    have hne1 : s1.near = s.near := by rw [hs1]
    have hway1 : s1.way.length ≤ 4000 := by rw [hs1]; exact hway
    have hsent1 : s1.sent ≤ 4000 := by rw [hs1]; exact hsent
    have z4 := HL.out.lay.frz 4 rfl (by omega) t
    have hg4 := (HL.out.lay.at_ 4 rfl).2
    have hg0 := (HL.out.lay.at_ 0 rfl).2
    have m04 := HL.out.lay.ne_ 0 4 rfl rfl (by decide)
    have m24 := HL.out.lay.ne_ 2 4 rfl rfl (by decide)
    have d0 := HL.out.lay.cellB 0 rfl 0 (by omega)
    have q2 := HL.out.lay.cell1 2 rfl (j := t) ht
    simp only [ofL_0] at d0
    obtain ⟨At, ct, hft, hct, hct2⟩ := HL.out.len t
    have hlen : (nearV s t).length = (s.near t).length := by simp
    rw [hft, hlen] at q2
    have H1 : Hid (LayW b gn n gt gf cf A cap fv R w0 s1 (w.setCell ⟨gf, t, none⟩ (.int .i64 (f : Nat)))) := Lib.hid (by rw [hs1]; exact HL.out.upd 4 (f : Int) rfl ht)
    clear hs1 hway hsent hfr HL
    rw [← hne1] at HTS
    obtain ⟨m, hm⟩ : ∃ m, m = (s.near t).length := ⟨_, rfl⟩
    rw [← hm] at q2 hnear
    have HFT : Hid (fv t = .slice At m ct) := Lib.hid (by rw [hft, hlen, hm])
    have HM : Hid (m = (s1.near t).length) := Lib.hid (by rw [hne1]; exact hm)
    clear hft hlen hm hct hct2
    go_wp2
    go_loopw [31] (fun i wr => ∃ (k : Nat) (A' : Option Addr) (cap' : Nat), k ≤ m ∧ i = .int .i64 (k : Nat) ∧ Hid (LayW b gn n gt gf cf A' cap' fv R w0 (sends t (((s1.near t).take k).filter fun j => j != f) s1) wr)) (fun i _ => m - (intOf i).toNat)
    case atStart => exact ⟨0, A, cap, by omega, rfl, Lib.hid (by rw [show ((s1.near t).take 0).filter (fun j => j != f) = [] from rfl, sends_nil]; exact H1.out)⟩
    case round =>
      clear H1 d0 d3 q2 q4 z4 hg4 hg0 m04 m24
      obtain ⟨k, A2, cap2, hk, rfl, HL⟩ := hrel
      have hlf := filt_len (s1.near t) k f
      rw [← HM.out] at hlf
      by_cases hkm : k < m
      · have hx : (nearV s1 t)[k]? = some (.int .i64 (((s1.near t)[k]'(by rw [← HM.out]; exact hkm) : Nat) : Int)) := by
          rw [List.getElem?_map, List.getElem?_eq_getElem (by rw [← HM.out]; exact hkm)]; rfl
        have hx2 : (s1.near t)[k]? = some ((s1.near t)[k]'(by rw [← HM.out]; exact hkm)) := List.getElem?_eq_getElem _
        generalize (s1.near t)[k]'(by rw [← HM.out]; exact hkm) = x at hx hx2
        have hown := HL.out.own t
        rw [HFT.out] at hown
        obtain ⟨gN, oN, rfl, hgN, hcN⟩ := hown.cell hx
        clear hown hx
        by_cases hxf : x = f
        · have HN := Lib.hid (filt_no (f := f) (by rw [hx2, hxf]))
          subst hxf
          clear hx2
          go_wp2
          go_roundw
          case rel => exact ⟨k + 1, A2, cap2, by omega, by go_num, Lib.hid (by rw [HN.out]; exact HL.out)⟩
          case measure => simp [intOf]; omega
        · have HN := Lib.hid (filt_yes hx2 hxf)
          have hxb : ((x : Int) == (f : Int)) = false := by rw [beq_eq_false_iff_ne]; omega
          have hxb2 : (x == f) = false := by rw [beq_eq_false_iff_ne]; omega
          clear hx2 hxf
          go_wp2_with (first | (go_at_call 14; refine (send_any b gn n gt gf cf A2 cap2 fv R w0 _ _ t x (by show (s1.way ++ List.map _ _).length ≤ 5000; rw [List.length_append, List.length_map]; omega) (by show s1.sent + _ ≤ 5000; omega) HL.out).mono ?_; rintro e w6 ⟨rfl, A6, c6, h6⟩) | fail)
          go_roundw
          case rel => exact ⟨k + 1, A6, c6, by omega, by go_num, Lib.hid (by rw [HN.out, ← sends_sends]; exact h6)⟩
          case measure => simp [intOf]; omega
      · obtain rfl : k = m := by omega
        rw [HM.out, List.take_length] at HL
        obtain ⟨s2, hs2⟩ : ∃ s2, s2 = sends t ((s1.near t).filter fun j => j != f) s1 := ⟨_, rfl⟩
        rw [← hs2] at HL HTS
        have hwe : s2.wait t = s.wait t := by rw [hs2]; exact hwe1
        have hway2 : s2.way.length ≤ 4500 := by
          rw [hs2]
          show (s1.way ++ List.map _ _).length ≤ 4500
          rw [List.length_append, List.length_map]
          rw [HM.out, List.take_length] at hlf
          have := HM.out
          omega
        have hsent2 : s2.sent ≤ 4500 := by
          rw [hs2]
          show s1.sent + _ ≤ 4500
          rw [HM.out, List.take_length] at hlf
          have := HM.out
          omega
        clear hs2 hlf
        have c2 := HL.out.lay.cellB 0 rfl 2 (by omega)
        have c3 := HL.out.lay.cellB 0 rfl 3 (by omega)
        have r3 := HL.out.lay.cell1 3 rfl (j := t) ht
        have r4 := HL.out.lay.cell1 4 rfl (j := t) ht
        have z3 := HL.out.lay.frz 3 rfl (by omega) t
        have n1 := HL.out.lay.ne_ 0 3 rfl rfl (by decide)
        have n2 := HL.out.lay.ne_ 3 4 rfl rfl (by decide)
        have h1 := (HL.out.lay.at_ 3 rfl).2
        have h2 := (HL.out.lay.at_ 0 rfl).2
        have h3 := (HL.out.lay.at_ 4 rfl).2
        simp only [ofL_2, ofL_3] at c2 c3
        have HL4 : Hid (LayW b gn n gt gf cf A2 cap2 fv R w0 (takeB t s2) (wr.setCell ⟨gt, t, none⟩ (.int .i64 (s2.wait t - 1)))) := Lib.hid (HL.out.upd 3 (s2.wait t - 1) rfl ht)
        have HC0 : Hid (takeC t (takeB t s2) = if s2.wait t - 1 = 0 ∧ 0 ≤ s2.frm t then sends t [(s2.frm t).toNat] (takeB t s2) else takeB t s2) := Lib.hid (by unfold takeC; simp only [takeB, upd_same])
        obtain ⟨x, hx⟩ : ∃ x, x = s2.wait t := ⟨_, rfl⟩
        obtain ⟨y, hy⟩ : ∃ y, y = s2.frm t := ⟨_, rfl⟩
        rw [← hx] at HL4 HC0 r3
        rw [← hy] at r4 HC0
        have hx0 : -1000 ≤ x := by rw [hx, hwe]; exact hw0
        have hx1 : x ≤ 1000 := by rw [hx, hwe]; exact hw1
        try have hyb := hfrx _ hy
        try clear hfrx
        clear hx hy HL
        by_cases hz : x - 1 = 0
        · by_cases hy0 : 0 ≤ y
          · obtain ⟨p, rfl⟩ := Int.eq_ofNat_of_zero_le hy0
            have HC1 : Hid (takeC t (takeB t s2) = sends t [p] (takeB t s2)) := Lib.hid (by rw [HC0.out, if_pos ⟨hz, hy0⟩]; rfl)
            obtain rfl : x = 1 := by omega
            clear hy0 hz
            go_wp2_with (first | (go_at_call 14; refine (send_any b gn n gt gf cf A2 cap2 fv R w0 (takeB t s2) _ t p (by show s2.way.length ≤ 5000; omega) (by show s2.sent ≤ 5000; omega) HL4.out).mono ?_; rintro e w6 ⟨rfl, A6, c6, h6⟩) | fail)
            go_end0
            exact ⟨rfl, A6, c6, by rw [HTS.out, HC1.out]; exact h6⟩
          · have HC1 : Hid (takeC t (takeB t s2) = takeB t s2) := Lib.hid (by rw [HC0.out, if_neg (fun h => hy0 h.2)])
            obtain rfl : x = 1 := by omega
            clear hz
            go_wp2
            go_end0
            exact ⟨rfl, A2, cap2, by rw [HTS.out, HC1.out]; exact HL4.out⟩
        · have HC1 : Hid (takeC t (takeB t s2) = takeB t s2) := Lib.hid (by rw [HC0.out, if_neg (fun h => hz h.1)])
          have hz' : (x - 1 == 0) = false := by rw [beq_eq_false_iff_ne]; exact hz
          clear hz
          go_wp2
          go_end0
          exact ⟨rfl, A2, cap2, by rw [HTS.out, HC1.out]; exact HL4.out⟩
  · have hfrx : ∀ z, z = s.frm t → (z == -1) = false := fun z hz => by rw [hz, beq_eq_false_iff_ne]; exact hfr
    have hTA : takeA f t s = s := if_neg hfr
    have HTS : Hid (takeS f t s = takeC t (takeB t s)) := Lib.hid (by rw [HTS0.out, hTA])
    have hwe : s.wait t = s.wait t := rfl
    clear HTS0 hTA hfr d3 q4
    go_enter Try.func16, Try.ntmps16
    have c2 := HL.out.lay.cellB 0 rfl 2 (by omega)
    have c3 := HL.out.lay.cellB 0 rfl 3 (by omega)
    have r3 := HL.out.lay.cell1 3 rfl (j := t) ht
    have r4 := HL.out.lay.cell1 4 rfl (j := t) ht
    have z3 := HL.out.lay.frz 3 rfl (by omega) t
    have n1 := HL.out.lay.ne_ 0 3 rfl rfl (by decide)
    have n2 := HL.out.lay.ne_ 3 4 rfl rfl (by decide)
    have h1 := (HL.out.lay.at_ 3 rfl).2
    have h2 := (HL.out.lay.at_ 0 rfl).2
    have h3 := (HL.out.lay.at_ 4 rfl).2
    simp only [ofL_2, ofL_3] at c2 c3
    have HL4 : Hid (LayW b gn n gt gf cf A cap fv R w0 (takeB t s) (w.setCell ⟨gt, t, none⟩ (.int .i64 (s.wait t - 1)))) := Lib.hid (HL.out.upd 3 (s.wait t - 1) rfl ht)
    have HC0 : Hid (takeC t (takeB t s) = if s.wait t - 1 = 0 ∧ 0 ≤ s.frm t then sends t [(s.frm t).toNat] (takeB t s) else takeB t s) := Lib.hid (by unfold takeC; simp only [takeB, upd_same])
    obtain ⟨x, hx⟩ : ∃ x, x = s.wait t := ⟨_, rfl⟩
    obtain ⟨y, hy⟩ : ∃ y, y = s.frm t := ⟨_, rfl⟩
    rw [← hx] at HL4 HC0 r3
    rw [← hy] at r4 HC0
    have hx0 : -1000 ≤ x := by rw [hx, hwe]; exact hw0
    have hx1 : x ≤ 1000 := by rw [hx, hwe]; exact hw1
    try have hyb := hfrx _ hy
    try clear hfrx
    clear hx hy HL
    by_cases hz : x - 1 = 0
    · by_cases hy0 : 0 ≤ y
      · obtain ⟨p, rfl⟩ := Int.eq_ofNat_of_zero_le hy0
        have HC1 : Hid (takeC t (takeB t s) = sends t [p] (takeB t s)) := Lib.hid (by rw [HC0.out, if_pos ⟨hz, hy0⟩]; rfl)
        obtain rfl : x = 1 := by omega
        clear hy0 hz
        go_wp2_with (first | (go_at_call 14; refine (send_any b gn n gt gf cf A cap fv R w0 (takeB t s) _ t p (by show s.way.length ≤ 5000; omega) (by show s.sent ≤ 5000; omega) HL4.out).mono ?_; rintro e w6 ⟨rfl, A6, c6, h6⟩) | fail)
        go_end0
        exact ⟨rfl, A6, c6, by rw [HTS.out, HC1.out]; exact h6⟩
      · have HC1 : Hid (takeC t (takeB t s) = takeB t s) := Lib.hid (by rw [HC0.out, if_neg (fun h => hy0 h.2)])
        obtain rfl : x = 1 := by omega
        clear hz
        go_wp2
        go_end0
        exact ⟨rfl, A, cap, by rw [HTS.out, HC1.out]; exact HL4.out⟩
    · have HC1 : Hid (takeC t (takeB t s) = takeB t s) := Lib.hid (by rw [HC0.out, if_neg (fun h => hz h.1)])
      have hz' : (x - 1 == 0) = false := by rw [beq_eq_false_iff_ne]; exact hz
      clear hz
      go_wp2
      go_end0
      exact ⟨rfl, A, cap, by rw [HTS.out, HC1.out]; exact HL4.out⟩
end Go.Proofs.Ytcmbbioipbdonaa
