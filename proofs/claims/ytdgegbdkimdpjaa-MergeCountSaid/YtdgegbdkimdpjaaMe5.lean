/- The walk of 'do', a drop; all of 'do'. -/
import Derived.Test.YtdgegbdkimdpjaaMe4
set_option linter.unusedVariables false
set_option linter.unusedSimpArgs false
namespace Go.Proofs.Ytdgegbdkimdpjaa
open Go.RowKit Go.Maps Go.MapKept

/-- The first j of a list put in. -/
def curT (c : Tag → Bool) (l : List Tag) (j : Nat) (q : Tag) : Bool := c q || decide (q ∈ l.take j)
theorem curT_next {c : Tag → Bool} {l : List Tag} {j : Nat} (h : j < l.length) : (fun q => curT c l j q || decide (q = l[j])) = curT c l (j + 1) := by
  funext q
  unfold curT
  rw [List.take_succ_eq_append_getElem h, Bool.or_assoc]
  congr 1
  rw [Bool.eq_iff_iff, Bool.or_eq_true, decide_eq_true_iff, decide_eq_true_iff, decide_eq_true_iff, List.mem_append, List.mem_singleton]
theorem curT_zero (c : Tag → Bool) (l : List Tag) : curT c l 0 = c := by funext q; simp [curT]
def putC (s : MeS) (a : Nat) (c : Tag → Bool) : MeS := { s with st := upd s.st a c }
section
variable (g cl n ga : Nat) (bm : Nat → Nat) (R : List LRow) (w0 : World) (F : Nat → Value) (s : MeS) (w : World)
set_option maxHeartbeats 1600000 in
theorem do_drop (f v : Nat) (t : Int) (hn : n ≤ 6) (hf : f < n) (hv : v ≤ 8) (hbd : MeB 60 s) (h : LayE g cl n n (some ⟨ga, 0, none⟩) bm R w0 F s w) :
    Calls Try.prog 15 #[.pointer (some ⟨g, 0, none⟩), .agg #[.int .i64 2, .int .i64 (f : Nat), .int .i64 t, .int .i64 (v : Nat)]] w (PostM g cl n ga bm R w0 F (if hasB s f v = true then 0 else 5) (if hasB s f v = true then meDrop s f v else s)) := by
  have HF : Hid (outB n (f : Nat) = false) := Lib.hid (by simp [outB]; omega)
  have HBD := Lib.hid hbd; clear hbd
  obtain ⟨b, hb⟩ : ∃ b, hasB s f v = b := ⟨_, rfl⟩
  have hiff := hasB_iff HBD.out (Nat.le_refl 60) f v
  rw [hb] at hiff ⊢
  clear hb
  have HIFF := Lib.hid hiff
  clear hiff
  obtain ⟨c9, hc9⟩ : ∃ c9 : Int, c9 = if b = true then 0 else 5 := ⟨_, rfl⟩
  obtain ⟨s9, hs9⟩ : ∃ s9 : MeS, s9 = if b = true then meDrop s f v else s := ⟨_, rfl⟩
  rw [← hc9, ← hs9]
  have HC9 := Lib.hid hc9
  have HS9 := Lib.hid hs9
  clear hc9 hs9
  have H := Lib.hid h; clear h
  have HK := Lib.hid ((((H.out.newB [.pointer (some ⟨g, 0, none⟩)] 43 1 rfl _ rfl).rot2).newB [.int .i64 (2), .int .i64 ((f : Nat)), .int .i64 (t), .int .i64 ((v : Nat))] 37 4 rfl _ rfl).rot2)
  go_enter Try.func15, Try.ntmps15
  go_wp2_with fail
  refine at_layQ (F := fun W' => Calls _ _ _ W' _) HK.out ?_
  intro W hW
  have HW : Hid (LayE g cl n n (some ⟨ga, 0, none⟩) bm (mvB (w.heap.size + 1) (2) ((f : Nat)) (t) ((v : Nat)) :: ptrM w.heap.size g :: R) w0 F s W) := Lib.hid (by rw [← size_push w (.cells #[.pointer (some ⟨g, 0, none⟩)] 43)]; exact hW)
  clear hW H HK
  generalize w.heap.size + 1 = qm at HW ⊢
  generalize w.heap.size = qn at HW ⊢
  obtain ⟨c0, c1⟩ := me_heads HW.out
  have hN : W.cell? ⟨qn, 0, none⟩ = some (.pointer (some ⟨g, 0, none⟩)) := HW.out.lay.cellB 3 rfl 0 (by omega)
  have m0 : W.cell? ⟨qm, 0, none⟩ = some (.int .i64 (2)) := HW.out.lay.cellB 2 rfl 0 (by omega)
  have m1 : W.cell? ⟨qm, 1, none⟩ = some (.int .i64 ((f : Nat))) := HW.out.lay.cellB 2 rfl 1 (by omega)
  have m2 : W.cell? ⟨qm, 2, none⟩ = some (.int .i64 (t)) := HW.out.lay.cellB 2 rfl 2 (by omega)
  have m3 : W.cell? ⟨qm, 3, none⟩ = some (.int .i64 ((v : Nat))) := HW.out.lay.cellB 2 rfl 3 (by omega)
  refine (clM_is false (f : Nat) n cl qn g _ _ hN c0 hn HF.out).mono ?_
  rintro e w3 ⟨rfl, rfl⟩
  go_wp2
  refine wp_text_all (by kernel_rfl) (by kernel_rfl) (by kernel_rfl) (by repeat' (first | (with_reducible apply tame_then) | (with_reducible apply tame_block) | (with_reducible apply tame_scope) | exact tame_gives | exact tame_body (fun _ _ h => ⟨_, h.1⟩))) ?_
  go_wp2
  refine headed ?_
  go_wp2_with fail
  have hcell : ∀ (W' : World) (r : LRow), LayQ w0 W' (r :: rowsE g cl n (some ⟨ga, 0, none⟩) bm F s (mvB qm 2 (f : Nat) t (v : Nat) :: ptrM qn g :: R)) (mapsE n bm s) tyE F (qsE n n s) → W'.cell? ⟨ga, f * 4, none⟩ = some (.map (some (bm (2 * f)))) ∧ W'.cell? ⟨ga, f * 4 + 1, none⟩ = some (.map (some (bm (2 * f + 1)))) := fun W' r hW' => by
    obtain ⟨x1, x2, _, _⟩ := me_rep hW'.tail1 hf
    exact ⟨x1, x2⟩
  refine (has_any ga (f * 4) (bm (2 * f)) (bm (2 * f + 1)) (2 * f) (2 * f + 1) v (s.st (2 * f)) (s.st (2 * f + 1)) _ hv (fun t ht => ⟨(HBD.out.st _ t ht).1, Nat.le_trans (HBD.out.st _ t ht).2.2 HBD.out.tags⟩) (mapsE_at (by omega)) (mapsE_at (by omega)) hcell HW.out.drew).mono ?_
  rintro e w4 ⟨v4, rfl, A, cap, l, rfl, hl61, hmem, hL⟩
  have HMEM : Hid (∀ t, t ∈ l ↔ leftT s f v t = true) := Lib.hid fun t => by
    rw [hmem]
    simp only [leftT, Bool.and_eq_true, decide_eq_true_iff, Bool.not_eq_true']
  have HL := Lib.hid hL.rot2
  clear hL hmem hcell hN m0 m1 m2 m3 c0 c1 HW
  have hiff := HIFF.out
  cases b
  · have hl0 : l = [] := by
      rcases l with _ | ⟨x, l⟩
      · rfl
      · exact absurd (hiff.2 ⟨x, (HMEM.out x).1 (by simp)⟩) (by simp)
    subst hl0
    clear hiff HIFF
    go_wp2
    go_ret
    have e1 : c9 = 5 := HC9.out
    have e2 : s9 = s := HS9.out
    rw [e1, e2]
    exact ⟨rfl, HL.out.drop2.drop2.drop2⟩
  · obtain ⟨x0, hx0⟩ := hiff.1 rfl
    have hlp : 0 < l.length := List.length_pos_of_mem ((HMEM.out x0).2 hx0)
    clear hiff hx0
    obtain ⟨gl, rfl, -, -, -, -⟩ := (HL.out.lay.own 2 _ rfl).pos hlp
    obtain ⟨k, hk⟩ : ∃ k, k = l.length := ⟨_, rfl⟩
    have HKL := Lib.hid hk
    have HL2 : Hid (LayE g cl n n (some ⟨ga, 0, none⟩) bm (tagR (some ⟨gl, 0, none⟩) cap l :: mvB qm 2 (f : Nat) t (v : Nat) :: ptrM qn g :: R) w0 F (putC s (2 * f + 1) (curT (s.st (2 * f + 1)) l 0)) w4) := Lib.hid (by
      rw [curT_zero, putC, upd_self]; exact HL.out)
    clear HL
    rw [← hk] at hl61 hlp ⊢
    clear hk
    have hk0 : ((k : Int) == 0) = false := by rw [beq_eq_false_iff_ne]; omega
    go_wp2
    go_loopw [90] (fun kv wr => ∃ j : Nat, j ≤ k ∧ kv = .int .i64 j ∧ Hid (LayE g cl n n (some ⟨ga, 0, none⟩) bm (tagR (some ⟨gl, 0, none⟩) cap l :: mvB qm 2 (f : Nat) t (v : Nat) :: ptrM qn g :: R) w0 F (putC s (2 * f + 1) (curT (s.st (2 * f + 1)) l j)) wr)) (fun kv _ => k - (intOf kv).toNat)
    case atStart => exact ⟨0, by omega, rfl, HL2⟩
    case round =>
      obtain ⟨j, hj, rfl, HM⟩ := hrel
      clear HL2
      by_cases hlt : j < k
      · have hjl : j < l.length := by rw [← HKL.out]; exact hlt
        obtain ⟨⟨p1, p2⟩, hp⟩ : ∃ p, p = l[j] := ⟨_, rfl⟩
        have hpm := (HMEM.out _).1 (List.getElem_mem hjl)
        rw [← hp] at hpm
        simp only [leftT, Bool.and_eq_true] at hpm
        obtain ⟨hp8, -, hp60⟩ := HBD.out.st _ _ hpm.1
        have hp8 : p1 ≤ 8 := hp8
        have hp60 : p2 ≤ 60 := Nat.le_trans hp60 HBD.out.tags
        have hD : l.getD j (0, 0) = (p1, p2) := by rw [List.getD_eq_getElem?_getD, List.getElem?_eq_getElem hjl, hp]; rfl
        have t0 : wr.cell? ⟨gl, j * 2, none⟩ = some (.int .i64 (p1 : Nat)) := by
          rw [HM.out.lay.cell 2 rfl (show j * 2 < l.length * 2 by omega), tagF, if_pos (by omega), show j * 2 / 2 = j by omega, hD]
        have t1 : wr.cell? ⟨gl, j * 2 + 1, none⟩ = some (.int .i64 (p2 : Nat)) := by
          rw [HM.out.lay.cell 2 rfl (show j * 2 + 1 < l.length * 2 by omega), tagF, if_neg (by omega), show (j * 2 + 1) / 2 = j by omega, hD]
        have HP := Lib.hid hp
        clear hp hpm hD
        have HM7 := Lib.hid (HM.out.alloc (.cells #[.int .i64 (p1 : Nat), .int .i64 (p2 : Nat)] 58)).drew
        have dd0 : (wr.alloc (.cells #[.int .i64 (p1 : Nat), .int .i64 (p2 : Nat)] 58)).cell? ⟨wr.heap.size, 0, none⟩ = some (.int .i64 (p1 : Nat)) := by rw [World.cell?_alloc_new]; rfl
        have dd1 : (wr.alloc (.cells #[.int .i64 (p1 : Nat), .int .i64 (p2 : Nat)] 58)).cell? ⟨wr.heap.size, 1, none⟩ = some (.int .i64 (p2 : Nat)) := by rw [World.cell?_alloc_new]; rfl
        go_wp2
        generalize (wr.alloc (.cells #[.int .i64 (p1 : Nat), .int .i64 (p2 : Nat)] 58)) = W at dd0 dd1 HM7 ⊢
        generalize wr.heap.size = q6 at dd0 dd1 ⊢
        clear t0 t1 HM
        obtain ⟨es', k', hput, hL⟩ := me_ins (a := 2 * f + 1) HM7.out (show 2 * f + 1 < 2 * n by omega) (p1, p2) (show p1 < 1000 by omega) (show p2 < 1000 by omega)
        have HL : Hid (LayE g cl n n (some ⟨ga, 0, none⟩) bm (tagR (some ⟨gl, 0, none⟩) cap l :: mvB qm 2 (f : Nat) t (v : Nat) :: ptrM qn g :: R) w0 F (putC s (2 * f + 1) (curT (s.st (2 * f + 1)) l (j + 1))) (ChangeMaps.setBlock W.drew (bm (2 * f + 1)) (.map es' k'))) := Lib.hid (by
          have e1 : (upd (putC s (2 * f + 1) (curT (s.st (2 * f + 1)) l j)).st (2 * f + 1) (fun q => (putC s (2 * f + 1) (curT (s.st (2 * f + 1)) l j)).st (2 * f + 1) q || decide (q = (p1, p2)))) = upd s.st (2 * f + 1) (curT (s.st (2 * f + 1)) l (j + 1)) := by
            unfold putC
            simp only [upd_upd, upd_same]
            rw [HP.out, curT_next hjl]
          rw [e1] at hL
          exact hL)
        clear hL
        have hmr := me_rep HM7.out hf
        obtain ⟨c0, c1, c2, c3⟩ : W.cell? ⟨ga, f * 4, none⟩ = some (.map (some (bm (2 * f)))) ∧ W.cell? ⟨ga, f * 4 + 1, none⟩ = some (.map (some (bm (2 * f + 1)))) ∧ W.cell? ⟨ga, f * 4 + 2, none⟩ = some (F (2 * f)) ∧ W.cell? ⟨ga, f * 4 + 3, none⟩ = some (F (2 * f + 1)) := hmr
        clear c0 c2 c3
        refine wp_text 5 (by kernel_rfl) (by kernel_rfl) (by kernel_rfl) (by repeat' (first | (with_reducible apply tame_then) | (with_reducible apply tame_block) | (with_reducible apply tame_scope) | exact tame_gives | exact tame_body (fun _ _ h => ⟨_, h.1⟩))) ?_
        simp only [List.take_succ_cons, List.take_zero, List.drop_succ_cons, List.drop_zero]
        go_wp2
        refine headed ?_
        refine wpList_updE rfl (.tmp 97) (.tmp 98) (.const (.bool true)) _ rfl rfl rfl rfl hput ?_
        go_wp2
        go_roundw
        case rel => exact ⟨j + 1, by omega, by go_num, HL⟩
        case measure => simp [intOf]; omega
      · obtain rfl : j = k := by omega
        have HEND : Hid (LayE g cl n n (some ⟨ga, 0, none⟩) bm (tagR (some ⟨gl, 0, none⟩) cap l :: mvB qm 2 (f : Nat) t (v : Nat) :: ptrM qn g :: R) w0 F (meDrop s f v) wr) := Lib.hid (by
          have : curT (s.st (2 * f + 1)) l j = fun q => s.st (2 * f + 1) q || leftT s f v q := funext fun q => by
            unfold curT
            congr 1
            rw [Bool.eq_iff_iff, decide_eq_true_iff, HKL.out, List.take_length, HMEM.out]
          have h1 := HM.out
          rw [this] at h1
          exact h1)
        clear HM
        go_wp2
        go_ret
        have e1 : c9 = 0 := HC9.out
        have e2 : s9 = meDrop s f v := HS9.out
        rw [e1, e2]
        exact ⟨rfl, HEND.out.drop2.drop2.drop2⟩
theorem outB_no {n : Nat} {i : Int} (h : ¬ (i < 0 ∨ (n : Int) ≤ i)) : outB n i = false := by simp [outB]; omega
theorem outB_yes {n : Nat} {i : Int} (h : i < 0 ∨ (n : Int) ≤ i) : outB n i = true := by simp [outB]; omega
theorem do_any (m : Nat) (k f t v : Int) (hn1 : 1 ≤ n) (hn : n ≤ 6) (hm : m ≤ 59) (hbd : MeB m s) (h : LayE g cl n n (some ⟨ga, 0, none⟩) bm R w0 F s w) :
    Calls Try.prog 15 #[.pointer (some ⟨g, 0, none⟩), .agg #[.int .i64 k, .int .i64 f, .int .i64 t, .int .i64 v]] w (PostM g cl n ga bm R w0 F (meDo n s k f t v).2 (meDo n s k f t v).1) := by
  unfold meDo
  by_cases h1 : k < 1 ∨ 4 < k
  · rw [if_pos h1]; exact do_kind g cl n ga bm R w0 F s w k f t v h1 h
  rw [if_neg h1]
  by_cases h2 : (f < 0 ∨ (n : Int) ≤ f) ∨ k = 4 ∧ (t < 0 ∨ (n : Int) ≤ t)
  · rw [if_pos h2]
    exact do_arg g cl n ga bm R w0 F s w k f t v hn h1 (h2.imp outB_yes (fun h => ⟨h.1, outB_yes h.2⟩)) h
  rw [if_neg h2]
  have hfn : ¬ (f < 0 ∨ (n : Int) ≤ f) := fun e => h2 (.inl e)
  obtain ⟨f, rfl⟩ := Int.eq_ofNat_of_zero_le (show 0 ≤ f by omega)
  have hf : f < n := by omega
  by_cases h3 : k ≤ 2 ∧ (v < 0 ∨ 8 < v)
  · rw [if_pos h3]
    exact do_range g cl n ga bm R w0 F s w k _ t v hn ⟨by omega, h3.1⟩ (outB_no hfn) h3.2 h
  rw [if_neg h3]
  by_cases h4 : k = 1
  · rw [if_pos h4]
    subst h4
    obtain ⟨v, rfl⟩ := Int.eq_ofNat_of_zero_le (show 0 ≤ v by omega)
    exact do_add g cl n ga bm R w0 F s w f v t hn hf (by omega) (hbd.more hm) h
  rw [if_neg h4]
  by_cases h5 : k = 2
  · rw [if_pos h5]
    subst h5
    obtain ⟨v, rfl⟩ := Int.eq_ofNat_of_zero_le (show 0 ≤ v by omega)
    have := do_drop g cl n ga bm R w0 F s w f v t hn hf (by omega) (hbd.more (by omega)) h
    simp only [Int.toNat_natCast]
    cases hb : hasB s f v
    · rw [hb] at this; exact this
    · rw [hb] at this; exact this
  rw [if_neg h5]
  by_cases h6 : k = 3
  · rw [if_pos h6]
    subst h6
    by_cases h7 : v = 1
    · rw [if_pos h7]; subst h7; exact do_up1 g cl n ga bm R w0 F s w f t hn1 hn hf (hbd.more hm) h
    · rw [if_neg h7]
      by_cases h8 : v = -1
      · rw [if_pos h8]; subst h8; exact do_up2 g cl n ga bm R w0 F s w f t hn1 hn hf (hbd.more hm) h
      · rw [if_neg h8]; exact do_up0 g cl n ga bm R w0 F s w f t v hn hf ⟨h7, h8⟩ h
  · rw [if_neg h6]
    obtain rfl : k = 4 := by omega
    obtain ⟨t, rfl⟩ := Int.eq_ofNat_of_zero_le (show 0 ≤ t by
      rcases Int.lt_or_le t 0 with h | h
      · exact absurd (.inr ⟨rfl, .inl h⟩) h2
      · exact h)
    have ht : t < n := by
      rcases Nat.lt_or_ge t n with h | h
      · exact h
      · exact absurd (.inr ⟨rfl, .inr (by omega)⟩) h2
    exact do_join g cl n ga bm R w0 F s w f t v hn1 hn hf ht (hbd.more (by omega)) h
end
end Go.Proofs.Ytdgegbdkimdpjaa
