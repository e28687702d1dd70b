/- The walk of token's 'give'. -/
import Derived.Test.YtihkbkbbllmliaaTk1
set_option linter.unusedVariables false
set_option linter.unusedSimpArgs false
namespace Go.Proofs.Ytihkbkbbllmliaa
open Go.RowKit Go.Maps Go.MapKept

theorem ShortK.send {k a b : Nat} {x : Bool} {s : KS} (h : ShortK k s) : ShortK (k + 1) (sendK a b x s) := fun p => by
  show (qput s.way (a, b) (s.way (a, b) ++ [x]) p).length ≤ k + 1
  unfold qput
  split
  · have := h (a, b); simp; omega
  · have := h p; omega
theorem ShortK.mono {k j : Nat} {s : KS} (h : ShortK k s) (e : k ≤ j) : ShortK j s := fun p => Nat.le_trans (h p) e
theorem ShortK.row {k : Nat} {s s' : KS} (h : ShortK k s) (e : s'.way = s.way := by rfl) : ShortK k s' := fun p => by rw [e]; exact h p
section
variable (g gp go bm n cp : Nat) (R : List LRow) (w0 : World)
set_option maxRecDepth 100000 in
set_option maxHeartbeats 1600000 in
theorem give_any (i : Nat) (f : FK → Value) (s : KS) (w : World) (hn : n ≤ 6) (hi : i < n) (hrow : ∀ x, x ∈ s.row i → x < n) (hrl : (s.row i).length ≤ 1000) (hq : ShortK 990 s) (h : LayK g gp go bm n cp R w0 f s w) :
    Calls Try.prog 32 #[.pointer (some ⟨g, 0, none⟩), .int .i64 i] w fun e w' => e = .returned (.tuple #[]) ∧ ∃ f', LayK g gp go bm n cp R w0 f' (giveK i s) w' := by
  have HW := Lib.hid h; clear h
  obtain ⟨r, hr⟩ : ∃ r, r = giveK i s := ⟨_, rfl⟩
  rw [← hr]
  have HSH := Lib.hid hq; clear hq
  obtain ⟨c0, c1, c2, c3, c4⟩ := tk_heads HW.out
  clear c4
  have cr0 := HW.out.lay.cell1 2 rfl hi
  obtain ⟨A, cap, hf, hcl, hcm⟩ := HW.out.len (.inr i)
  have hlen : (qsK s (.inr i)).length = (s.row i).length := vK_len _
  rw [hlen] at hf hcl
  have cr : w.cell? ⟨go, i, none⟩ = some (.slice A (s.row i).length cap) := by rw [← hf]; exact cr0
  clear cr0
  have HF := Lib.hid hf
  clear hf hlen
  by_cases h1 : s.has = (i : Int)
  · by_cases h2 : s.inn = (i : Int)
    · have HR := Lib.hid (hr.trans (if_pos (.inr h2)))
      have e1 : (s.has != (i : Int)) = false := by rw [bne_eq_false_iff_eq]; exact h1
      have e2 : (s.inn == (i : Int)) = true := by rw [beq_iff_eq]; exact h2
      clear hr h1 h2
      go_enter Try.func32, Try.ntmps32
      go_wp2
      exact bodyPost_ret (v := .tuple #[]) (by simp [results, Try.results32, go_sem]) rfl ⟨rfl, f, by rw [HR.out]; exact HW.out⟩
    · have HR := Lib.hid (hr.trans (if_neg (fun hh => hh.elim (fun hh => hh h1) h2)))
      clear hr
      have e1 : (s.has != (i : Int)) = false := by rw [bne_eq_false_iff_eq]; exact h1
      have e2 : (s.inn == (i : Int)) = false := by rw [beq_eq_false_iff_ne]; exact h2
      clear h1 h2
      cases hw : s.row i with
      | nil =>
        have HR : Hid (r = s) := Lib.hid (by rw [HR.out, hw])
        rw [hw] at cr
        simp only [List.length_nil] at cr
        clear hw hcl hrl
        go_enter Try.func32, Try.ntmps32
        go_wp2
        exact bodyPost_ret (v := .tuple #[]) (by simp [results, Try.results32, go_sem]) rfl ⟨rfl, f, by rw [HR.out]; exact HW.out⟩
      | cons to l =>
        have hto := hrow to (by rw [hw]; exact List.mem_cons_self)
        have HR : Hid (r = if to = i then { s with row := upd s.row i l, inn := i } else if l = [] then passK i to l s else sendK i to false (passK i to l s)) := Lib.hid (by rw [HR.out, hw])
        have ho := HW.out.own (.inr i)
        rw [HF.out, show qsK s (.inr i) = vK (to :: l) by show vK (s.row i) = _; rw [hw]] at ho
        rw [hw] at cr hcl hrl HF ho
        simp only [List.length_cons] at cr hcl hrl HF ho
        obtain ⟨b1, off, rfl, -, hc⟩ := ho.cell (j := 0) (x := .int .i64 (to : Nat)) rfl
        have hc0 : w.cell? ⟨b1, off, none⟩ = some (.int .i64 (to : Nat)) := hc
        have HO := Lib.hid ho
        have f2 := HW.out.lay.frz 2 rfl (by omega) i
        have f3 := HW.out.lay.frz 0 rfl (by omega) 2
        have f4 := HW.out.lay.frz 0 rfl (by omega) 3
        have f1 := HW.out.lay.frz 1 rfl (by omega) i
        have n01 := HW.out.lay.ne_ 0 1 rfl rfl (by omega)
        have n02 := HW.out.lay.ne_ 0 2 rfl rfl (by omega)
        have n12 := HW.out.lay.ne_ 1 2 rfl rfl (by omega)
        have c5 : w.cell? ⟨gp, i, none⟩ = some (.int .i64 (s.pt i : Nat)) := HW.out.lay.cell1 1 rfl hi
        clear ho hc hw hrow
        go_enter Try.func32, Try.ntmps32
        by_cases hc1 : cap = 1
        · subst hc1
          have HP := Lib.hid (tk_row (HW.out.drew.pop (.inr i) (v' := .slice (some ⟨b1, off, none⟩) 0 0) (xs' := vK l) (HO.out.pop0 rfl (by omega)) (by rw [HF.out]; rfl)) hi)
          by_cases h3 : to = i
          · have HR := Lib.hid (HR.out.trans (if_pos h3))
            have e3 : ((to : Int) == (i : Int)) = true := by rw [beq_iff_eq, h3]
            clear h3
            go_wp2
            refine wp_text 14 (by kernel_rfl) (by kernel_rfl) (by kernel_rfl) (by repeat' (first | (with_reducible apply tame_then) | (with_reducible apply tame_block) | (with_reducible apply tame_scope) | exact tame_gives | exact tame_body (fun _ _ h => ⟨_, h.1⟩))) ?_
            simp only [List.take_succ_cons, List.take_zero, List.drop_succ_cons, List.drop_zero]
            go_wp2
            refine headed ?_
            go_wp2
            exact bodyPost_ret (v := .tuple #[]) (by simp [results, Try.results32, go_sem]) rfl ⟨rfl, _, by rw [HR.out]; exact tk_inn _ (tk_sim HP.out ⟨rfl, rfl, rfl, rfl⟩)⟩
          · have HR := Lib.hid (HR.out.trans (if_neg h3))
            have e3 : ((to : Int) == (i : Int)) = false := by rw [beq_eq_false_iff_ne]; omega
            clear h3
            go_wp2
            refine wp_text 14 (by kernel_rfl) (by kernel_rfl) (by kernel_rfl) (by repeat' (first | (with_reducible apply tame_then) | (with_reducible apply tame_block) | (with_reducible apply tame_scope) | exact tame_gives | exact tame_body (fun _ _ h => ⟨_, h.1⟩))) ?_
            simp only [List.take_succ_cons, List.take_zero, List.drop_succ_cons, List.drop_zero]
            go_wp2
            refine headed ?_
            go_wp2_with fail
            refine (sendK_any g gp go bm n cp R w0 i to true _ _ _ hn hi hto (ShortK.row (HSH.out.mono (by omega))) (tk_pt to (tk_sim (tk_has (-1) (tk_sim HP.out ⟨rfl, rfl, rfl, rfl⟩)) ⟨rfl, rfl, rfl, rfl⟩) hi)).mono ?_
            rintro e w6 ⟨rfl, f6, h6⟩
            have H6 : Hid (LayK g gp go bm n cp R w0 f6 (passK i to l s) w6) := Lib.hid h6
            clear h6 c0 c1 c2 c3 c5 cr f1 f2 f3 f4 HW HP HO HF
            obtain ⟨c0, c1, c2, c3, c4⟩ := tk_heads H6.out
            clear c4
            have cr0 := H6.out.lay.cell1 2 rfl hi
            obtain ⟨A6, cap6, hf6, -, -⟩ := H6.out.len (.inr i)
            have cr : w6.cell? ⟨go, i, none⟩ = some (.slice A6 l.length cap6) := by
              rw [cr0, hf6]
              show some (Value.slice A6 (vK (upd s.row i l i)).length cap6) = _
              rw [upd_same, vK_len]
            clear cr0 hf6
            cases l with
            | nil =>
              have HR := Lib.hid (HR.out.trans (if_pos rfl))
              simp only [List.length_nil] at cr
              go_wp2
              go_end0
              exact ⟨rfl, _, by rw [HR.out]; exact H6.out⟩
            | cons y l =>
              have HR := Lib.hid (HR.out.trans (if_neg (by simp)))
              simp only [List.length_cons] at cr
              go_wp2_with fail
              refine (sendK_any g gp go bm n cp R w0 i to false _ _ _ hn hi hto (((ShortK.row (s := s) HSH.out).send (s := { s with row := upd s.row i (y :: l), has := -1, pt := upd s.pt i to }) (a := i) (b := to) (x := true)).mono (by omega)) H6.out).mono ?_
              rintro e w7 ⟨rfl, f7, h7⟩
              have H7 := Lib.hid h7
              clear h7
              go_wp2
              go_end0
              exact ⟨rfl, _, by rw [HR.out]; exact H7.out⟩
        · have HP := Lib.hid (tk_row (HW.out.drew.pop (.inr i) (v' := .slice (some ⟨b1, off + 1, none⟩) l.length (cap - 1)) (xs' := vK l) (HO.out.popS hc1 rfl) (by rw [HF.out]; rfl)) hi)
          by_cases h3 : to = i
          · have HR := Lib.hid (HR.out.trans (if_pos h3))
            have e3 : ((to : Int) == (i : Int)) = true := by rw [beq_iff_eq, h3]
            clear h3
            go_wp2
            refine wp_text 14 (by kernel_rfl) (by kernel_rfl) (by kernel_rfl) (by repeat' (first | (with_reducible apply tame_then) | (with_reducible apply tame_block) | (with_reducible apply tame_scope) | exact tame_gives | exact tame_body (fun _ _ h => ⟨_, h.1⟩))) ?_
            simp only [List.take_succ_cons, List.take_zero, List.drop_succ_cons, List.drop_zero]
            go_wp2
            refine headed ?_
            go_wp2
            exact bodyPost_ret (v := .tuple #[]) (by simp [results, Try.results32, go_sem]) rfl ⟨rfl, _, by rw [HR.out]; exact tk_inn _ (tk_sim HP.out ⟨rfl, rfl, rfl, rfl⟩)⟩
          · have HR := Lib.hid (HR.out.trans (if_neg h3))
            have e3 : ((to : Int) == (i : Int)) = false := by rw [beq_eq_false_iff_ne]; omega
            clear h3
            go_wp2
            refine wp_text 14 (by kernel_rfl) (by kernel_rfl) (by kernel_rfl) (by repeat' (first | (with_reducible apply tame_then) | (with_reducible apply tame_block) | (with_reducible apply tame_scope) | exact tame_gives | exact tame_body (fun _ _ h => ⟨_, h.1⟩))) ?_
            simp only [List.take_succ_cons, List.take_zero, List.drop_succ_cons, List.drop_zero]
            go_wp2
            refine headed ?_
            go_wp2_with fail
            refine (sendK_any g gp go bm n cp R w0 i to true _ _ _ hn hi hto (ShortK.row (HSH.out.mono (by omega))) (tk_pt to (tk_sim (tk_has (-1) (tk_sim HP.out ⟨rfl, rfl, rfl, rfl⟩)) ⟨rfl, rfl, rfl, rfl⟩) hi)).mono ?_
            rintro e w6 ⟨rfl, f6, h6⟩
            have H6 : Hid (LayK g gp go bm n cp R w0 f6 (passK i to l s) w6) := Lib.hid h6
            clear h6 c0 c1 c2 c3 c5 cr f1 f2 f3 f4 HW HP HO HF
            obtain ⟨c0, c1, c2, c3, c4⟩ := tk_heads H6.out
            clear c4
            have cr0 := H6.out.lay.cell1 2 rfl hi
            obtain ⟨A6, cap6, hf6, -, -⟩ := H6.out.len (.inr i)
            have cr : w6.cell? ⟨go, i, none⟩ = some (.slice A6 l.length cap6) := by
              rw [cr0, hf6]
              show some (Value.slice A6 (vK (upd s.row i l i)).length cap6) = _
              rw [upd_same, vK_len]
            clear cr0 hf6
            cases l with
            | nil =>
              have HR := Lib.hid (HR.out.trans (if_pos rfl))
              simp only [List.length_nil] at cr
              go_wp2
              go_end0
              exact ⟨rfl, _, by rw [HR.out]; exact H6.out⟩
            | cons y l =>
              have HR := Lib.hid (HR.out.trans (if_neg (by simp)))
              simp only [List.length_cons] at cr
              go_wp2_with fail
              refine (sendK_any g gp go bm n cp R w0 i to false _ _ _ hn hi hto (((ShortK.row (s := s) HSH.out).send (s := { s with row := upd s.row i (y :: l), has := -1, pt := upd s.pt i to }) (a := i) (b := to) (x := true)).mono (by omega)) H6.out).mono ?_
              rintro e w7 ⟨rfl, f7, h7⟩
              have H7 := Lib.hid h7
              clear h7
              go_wp2
              go_end0
              exact ⟨rfl, _, by rw [HR.out]; exact H7.out⟩
  · have HR := Lib.hid (hr.trans (if_pos (.inl h1)))
    clear hr
    have e1 : (s.has != (i : Int)) = true := by rw [bne_iff_ne]; exact h1
    clear h1
    go_enter Try.func32, Try.ntmps32
    go_wp2
    exact bodyPost_ret (v := .tuple #[]) (by simp [results, Try.results32, go_sem]) rfl ⟨rfl, f, by rw [HR.out]; exact HW.out⟩
end
end Go.Proofs.Ytihkbkbbllmliaa
