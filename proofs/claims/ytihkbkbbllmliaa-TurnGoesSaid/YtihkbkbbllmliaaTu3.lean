/- The walk of turn's 'come'. -/
import Derived.Test.YtihkbkbbllmliaaTu2
set_option linter.unusedVariables false
set_option linter.unusedSimpArgs false
namespace Go.Proofs.Ytihkbkbbllmliaa
open Go.RowKit Go.Maps Go.MapKept

theorem ShortT.pop {k f t : Nat} {x : Int} {l : List Int} {s : TS} (h : ShortT k s) (hw : s.way (f, t) = x :: l) : ShortT k { s with way := qput s.way (f, t) l } := fun p => by
  show (qput s.way (f, t) l p).length ≤ k
  rw [qp]; split
  · have := h (f, t); rw [hw] at this; simp at this; omega
  · exact h p
theorem later_no {t f : Nat} {x : Int} {o : One} (hl : ¬ later t f x o) : o.inn = false ∧ (¬ 0 < o.ask ∨ (0 < o.ask ∧ ¬ o.ask < x ∧ (¬ o.ask = x ∨ (o.ask = x ∧ ¬ t < f)))) := by
  unfold later at hl
  cases hi : o.inn
  · refine ⟨rfl, ?_⟩
    rw [hi] at hl
    simp only [Bool.false_eq_true, false_or] at hl
    by_cases h1 : 0 < o.ask
    · right
      by_cases h2 : o.ask < x
      · exact absurd ⟨h1, .inl h2⟩ hl
      · refine ⟨h1, h2, ?_⟩
        by_cases h3 : o.ask = x
        · exact .inr ⟨h3, fun h4 => hl ⟨h1, .inr ⟨h3, h4⟩⟩⟩
        · exact .inl h3
    · exact .inl h1
  · rw [hi] at hl
    exact absurd (.inl rfl) hl
theorem later_yes {t f : Nat} {x : Int} {o : One} (hl : later t f x o) : o.inn = true ∨ (o.inn = false ∧ 0 < o.ask ∧ o.ask < x) ∨ (o.inn = false ∧ 0 < o.ask ∧ ¬ o.ask < x ∧ o.ask = x ∧ t < f) := by
  cases hi : o.inn
  · right
    rcases hl with hl | ⟨h1, h2 | ⟨h2, h3⟩⟩
    · rw [hi] at hl; cases hl
    · exact .inl ⟨rfl, h1, h2⟩
    · exact .inr ⟨rfl, h1, by omega, h2, h3⟩
  · exact .inl rfl
theorem tu_put {g gl bm n : Nat} {R : List LRow} {w0 w : World} {s : TS} (p : WQ) {v' : Value} {l : List Int} {f0 : WQ → Value} (h : LayQ w0 w (rowsT g gl bm n s R) (mapsT bm n f0) tyT (fput f0 p v') (qput (qsT s) p (vI l))) (hn : n ≤ 6) (hp : p.1 < n ∧ p.2 < n) :
    ∃ es c, (Instr.mapUpdate 42 (.map (some bm)) (keyQ p) v').run Try.prog w = .ok () (ChangeMaps.setBlock w bm (.map es c)) ∧ LayT g gl bm n R w0 (fput f0 p v') { s with way := qput s.way p l } (ChangeMaps.setBlock w bm (.map es c)) := by
  obtain ⟨es, c, h1, h2⟩ := wq_update Try.underlying42 0 p v' h rfl hn hp
  exact ⟨es, c, h1, h2.sameQ (q' := qsT { s with way := qput s.way p l }) fun a => (qsT_way a).symm⟩
section
variable (g gl bm n : Nat) (R : List LRow) (w0 : World)
set_option maxRecDepth 100000 in
set_option maxHeartbeats 3200000 in
theorem come_any (a b : Nat) (f : WQ → Value) (s : TS) (w : World) (hn : n ≤ 6) (ha : a < n) (hb : b < n) (hab : a ≠ b) (hq : ShortT 1000 s) (hbt : (s.p b).hv < 2 ^ n ∧ (s.p b).wt < 2 ^ n) (h : LayT g gl bm n R w0 f s w) :
    Calls Try.prog 25 #[.pointer (some ⟨g, 0, none⟩), .int .i64 a, .int .i64 b] w fun e w' => e = .returned (.int .i64 (comeS n a b s).1) ∧ ∃ f', LayT g gl bm n R w0 f' (comeS n a b s).2 w' := by
  have H := Lib.hid h; clear h
  have HSH := Lib.hid hq; clear hq
  have h32 : (s.p b).hv < 4294967296 := Nat.lt_of_lt_of_le hbt.1 (Nat.le_trans (Nat.pow_le_pow_right (by omega) (show n ≤ 32 by omega)) (by decide))
  have hw32 : (s.p b).wt < 4294967296 := Nat.lt_of_lt_of_le hbt.2 (Nat.le_trans (Nat.pow_le_pow_right (by omega) (show n ≤ 32 by omega)) (by decide))
  obtain ⟨r, hr⟩ : ∃ r, r = comeS n a b s := ⟨_, rfl⟩
  rw [← hr]
  have HK := Lib.hid (H.out.newB [.int .i64 a, .int .i64 b] 48 2 rfl w.heap.size rfl).rot2
  go_enter Try.func25, Try.ntmps25
  go_wp2
  refine at_layQ (F := fun W' => Code.wp _ _ _ _ W') HK.out ?_
  intro W hW
  have HW : Hid (LayT g gl bm n (keyR w.heap.size a b :: R) w0 f s W) := Lib.hid hW
  clear hW HK H
  generalize w.heap.size = q at HW ⊢
  obtain ⟨c0, c1⟩ := tu_heads HW.out
  have k0 : W.cell? ⟨q, 0, none⟩ = some (.int .i64 a) := HW.out.lay.cellB 2 rfl 0 (by omega)
  have k1 : W.cell? ⟨q, 1, none⟩ = some (.int .i64 b) := HW.out.lay.cellB 2 rfl 1 (by omega)
  obtain ⟨A, cap, hf, hcl, hcm⟩ := HW.out.len (a, b)
  have hlen : (qsT s (a, b)).length = (s.way (a, b)).length := vI_len _
  rw [hlen] at hf hcl
  cases hw : s.way (a, b) with
  | nil =>
    have HR : Hid (r = (5, s)) := Lib.hid (by rw [hr]; unfold comeS; rw [hw])
    have hl0 : (Instr.lookup 42 (.map (some bm)) (.agg #[.int .i64 (a : Nat), .int .i64 (b : Nat)]) false).run Try.prog W.drew = .ok (.slice A 0 cap) W.drew := by
      rw [hw] at hf
      exact hf ▸ tu_look (a, b) HW.out.drew hn ⟨ha, hb⟩
    clear hf hcl hcm hlen hr hw c0
    refine wp_text_all (by kernel_rfl) (by kernel_rfl) (by kernel_rfl) (by repeat' (first | (with_reducible apply tame_then) | (with_reducible apply tame_block) | (with_reducible apply tame_scope) | exact tame_gives | exact tame_body (fun _ _ h => ⟨_, h.1⟩))) ?_
    go_wp2
    refine headed ?_
    go_wp2
    go_ret
    exact ⟨by rw [HR.out]; rfl, f, by rw [HR.out]; exact HW.out.drew.drop2⟩
  | cons x l =>
    have HR : Hid (r = (0, comeT n a b x l s)) := Lib.hid (by rw [hr]; unfold comeS; rw [hw])
    have HWY := Lib.hid hw
    have hlen2 : (s.way (a, b)).length = l.length + 1 := by rw [hw]; rfl
    have hsh : l.length ≤ 1000 := by have := HSH.out (a, b); omega
    rw [hlen2] at hf hcl
    have ho := HW.out.own (a, b)
    rw [hf, show qsT s (a, b) = vI (x :: l) by show vI (s.way (a, b)) = _; rw [hw]] at ho
    obtain ⟨b1, off, rfl, -, hc⟩ := ho.cell (j := 0) (x := .int .i64 x) rfl
    have hc : W.cell? ⟨b1, off, none⟩ = some (.int .i64 x) := hc
    have HO := Lib.hid ho
    have HF := Lib.hid hf
    have hl : ∀ W' : World, Sim W W' → (Instr.lookup 42 (.map (some bm)) (.agg #[.int .i64 (a : Nat), .int .i64 (b : Nat)]) false).run Try.prog W' = .ok (.slice (some ⟨b1, off, none⟩) (l.length + 1) cap) W' := fun W' hW' => by
      have := tu_look (a, b) (HW.out.sim (w' := W') hW') hn ⟨ha, hb⟩
      rw [hf] at this
      exact this
    have hl1 := hl W.drew ⟨rfl, rfl, rfl, rfl⟩
    have hl2 := hl W.drew.drew ⟨rfl, rfl, rfl, rfl⟩
    have hl3 := hl W.drew.drew.drew ⟨rfl, rfl, rfl, rfl⟩
    clear ho hf hlen hlen2 hw hr hl
    by_cases hc1 : cap = 1
    · subst hc1
      have HP : Hid (∃ es c, (Instr.mapUpdate 42 (.map (some bm)) (.agg #[.int .i64 (a : Nat), .int .i64 (b : Nat)]) (.slice (some ⟨b1, off, none⟩) 0 0)).run Try.prog W.drew.drew.drew = .ok () (ChangeMaps.setBlock W.drew.drew.drew bm (.map es c)) ∧ LayT g gl bm n (keyR q a b :: R) w0 (fput f (a, b) (.slice (some ⟨b1, off, none⟩) 0 0)) { s with way := qput s.way (a, b) l } (ChangeMaps.setBlock W.drew.drew.drew bm (.map es c))) :=
        Lib.hid (tu_put (a, b) (HW.out.drew.drew.drew.pop (a, b) (v' := .slice (some ⟨b1, off, none⟩) 0 0) (xs' := vI l) (HO.out.pop0 rfl (by omega)) (by rw [HF.out]; rfl)) hn ⟨ha, hb⟩)
      obtain ⟨es, cc, hput, hL5⟩ := HP.out
      have HL5 := Lib.hid hL5
      clear HP hL5
      refine wp_text_all (by kernel_rfl) (by kernel_rfl) (by kernel_rfl) (by repeat' (first | (with_reducible apply tame_then) | (with_reducible apply tame_block) | (with_reducible apply tame_scope) | exact tame_gives | exact tame_body (fun _ _ h => ⟨_, h.1⟩))) ?_
      go_wp2
      refine headed ?_
      go_wp2
      refine wp_text_all (by kernel_rfl) (by kernel_rfl) (by kernel_rfl) (by repeat' (first | (with_reducible apply tame_then) | (with_reducible apply tame_block) | (with_reducible apply tame_scope) | exact tame_gives | exact tame_body (fun _ _ h => ⟨_, h.1⟩))) ?_
      go_wp2
      refine headed ?_
      go_wp2
      refine wp_text 12 (by kernel_rfl) (by kernel_rfl) (by kernel_rfl) (by repeat' (first | (with_reducible apply tame_then) | (with_reducible apply tame_block) | (with_reducible apply tame_scope) | exact tame_gives | exact tame_body (fun _ _ h => ⟨_, h.1⟩))) ?_
      simp only [List.take_succ_cons, List.take_zero, List.drop_succ_cons, List.drop_zero]
      go_wp2
      refine headed ?_
      refine wpList_updE rfl (.tmp 32) (.tmp 33) (.tmp 40) _ rfl rfl rfl rfl hput ?_
      clear hput
      refine at_layQ (F := fun W' => wpList _ _ _ [] _ W') HL5.out ?_
      intro W5 hW5
      have H5 : Hid (LayT g gl bm n (keyR q a b :: R) w0 (fput f (a, b) (.slice (some ⟨b1, off, none⟩) 0 0)) { s with way := qput s.way (a, b) l } W5) := Lib.hid hW5
      clear hW5 HL5 HW HO HF c0 c1 k0 k1 hc hl1 hl2 hl3
      generalize fput f (a, b) (.slice (some ⟨b1, off, none⟩) 0 0) = f5 at H5
      obtain ⟨c0, c1⟩ := tu_heads H5.out
      obtain ⟨p0, p1, p2, p3, p4⟩ := tu_cells H5.out hb
      have o0 : W5.cell? ⟨gl, b * 5, none⟩ = some (.int .i64 (s.p b).ck) := p0
      have o1 : W5.cell? ⟨gl, b * 5 + 1, none⟩ = some (.int .i64 (s.p b).ask) := p1
      have o2 : W5.cell? ⟨gl, b * 5 + 2, none⟩ = some (.bool (s.p b).inn) := p2
      have o3 : W5.cell? ⟨gl, b * 5 + 3, none⟩ = some (.int .u32 ((s.p b).hv : Nat)) := p3
      have o4 : W5.cell? ⟨gl, b * 5 + 4, none⟩ = some (.int .u32 ((s.p b).wt : Nat)) := p4
      clear p0 p1 p2 p3 p4
      by_cases hx : x = 0
      · subst hx
        have HT := Lib.hid (HR.out.trans (congrArg (Prod.mk (0 : Int)) (if_pos rfl)))
        have f3 := H5.out.lay.frz 1 rfl (by omega) (b * 5 + 3)
        have hor := or_pow (a := (s.p b).hv) (m := a) h32 (by omega)
        have H6 := Lib.hid (tu_set 3 { s.p b with hv := (s.p b).hv ||| 2 ^ a } (u := .int .u32 (((s.p b).hv ||| 2 ^ a : Nat) : Int)) (tu_sim H5.out (w' := W5.drew) ⟨rfl, rfl, rfl, rfl⟩) hb (by omega) rfl (fun j hj hjk => by
          rcases (show j = 0 ∨ j = 1 ∨ j = 2 ∨ j = 3 ∨ j = 4 by omega) with rfl | rfl | rfl | rfl | rfl <;> first | rfl | exact absurd rfl hjk
          ))
        go_wp2
        refine wp_text 9 (by kernel_rfl) (by kernel_rfl) (by kernel_rfl) (by repeat' (first | (with_reducible apply tame_then) | (with_reducible apply tame_block) | (with_reducible apply tame_scope) | exact tame_gives | exact tame_body (fun _ _ h => ⟨_, h.1⟩))) ?_
        simp only [List.take_succ_cons, List.take_zero, List.drop_succ_cons, List.drop_zero]
        go_wp2
        refine headed ?_
        go_wp2_with fail
        refine (enter_any g gl bm n (keyR q a b :: R) w0 b f5 _ _ hn hb (by show (upd s.p b _ b).hv < _; rw [upd_same]; exact or_lt hbt.1 ha) H6.out).mono ?_
        rintro e w6 ⟨rfl, h6⟩
        have H7 := Lib.hid h6
        clear h6 H6 H5
        go_wp2
        go_ret
        exact ⟨by rw [HT.out]; rfl, f5, by rw [HT.out]; exact H7.out.drop2⟩
      · have HT0 := Lib.hid (HR.out.trans (congrArg (Prod.mk (0 : Int)) (if_neg hx)))
        have ex : (x == 0) = false := by rw [beq_eq_false_iff_ne]; exact hx
        have f0 := H5.out.lay.frz 1 rfl (by omega) (b * 5)
        have f4 := H5.out.lay.frz 1 rfl (by omega) (b * 5 + 4)
        have n01 := H5.out.lay.ne_ 0 1 rfl rfl (by omega)
        have n21 := H5.out.lay.ne_ 2 1 rfl rfl (by omega)
        clear hx
        by_cases hmc : (s.p b).ck < x
        · have HMX : Hid (max (s.p b).ck x = x) := Lib.hid (by omega)
          have HC := Lib.hid (tu_set 0 { s.p b with ck := x } (u := .int .i64 (x)) H5.out hb (by omega) rfl (fun j hj hjk => by
            rcases (show j = 0 ∨ j = 1 ∨ j = 2 ∨ j = 3 ∨ j = 4 by omega) with rfl | rfl | rfl | rfl | rfl <;> first | rfl | exact absurd rfl hjk
            ))
          by_cases hl : later b a x (s.p b)
          · have HT := Lib.hid (HT0.out.trans ((congrArg (Prod.mk (0 : Int)) (if_pos hl)).trans (by unfold deferT; rw [HMX.out])))
            have hor := or_pow (a := (s.p b).wt) (m := a) hw32 (by omega)
            have HD := Lib.hid ((tu_set 4 { s.p b with ck := x, wt := (s.p b).wt ||| 2 ^ a } (u := .int .u32 (((s.p b).wt ||| 2 ^ a : Nat) : Int)) (tu_sim HC.out (w' := (W5.setCell ⟨gl, b * 5, none⟩ (.int .i64 (x))).drew) ⟨rfl, rfl, rfl, rfl⟩) hb (by omega) rfl (fun j hj hjk => by
              show _ = oneV (upd s.p b _ b) j
              rw [upd_same]
              rcases (show j = 0 ∨ j = 1 ∨ j = 2 ∨ j = 3 ∨ j = 4 by omega) with rfl | rfl | rfl | rfl | rfl <;> first | rfl | exact absurd rfl hjk
              )).drop2)
            rcases later_yes hl with h1 | ⟨h1, h2, h3⟩ | ⟨h1, h2, h3, h4, h5⟩
            · rw [h1] at o2
              clear hl h1
              go_wp2
              refine wp_text 9 (by kernel_rfl) (by kernel_rfl) (by kernel_rfl) (by repeat' (first | (with_reducible apply tame_then) | (with_reducible apply tame_block) | (with_reducible apply tame_scope) | exact tame_gives | exact tame_body (fun _ _ h => ⟨_, h.1⟩))) ?_
              simp only [List.take_succ_cons, List.take_zero, List.drop_succ_cons, List.drop_zero]
              go_wp2
              refine headed ?_
              go_wp2
              go_ret
              exact ⟨by rw [HT.out]; rfl, f5, by
                rw [HT.out]
                have := HD.out
                simp only [upd_upd] at this
                exact this⟩
            · rw [h1] at o2
              clear hl h1
              go_wp2
              refine wp_text 9 (by kernel_rfl) (by kernel_rfl) (by kernel_rfl) (by repeat' (first | (with_reducible apply tame_then) | (with_reducible apply tame_block) | (with_reducible apply tame_scope) | exact tame_gives | exact tame_body (fun _ _ h => ⟨_, h.1⟩))) ?_
              simp only [List.take_succ_cons, List.take_zero, List.drop_succ_cons, List.drop_zero]
              go_wp2
              refine headed ?_
              go_wp2
              go_ret
              exact ⟨by rw [HT.out]; rfl, f5, by
                rw [HT.out]
                have := HD.out
                simp only [upd_upd] at this
                exact this⟩
            · rw [h1] at o2
              have e5 : ((b : Int) < (a : Int)) := by omega
              have e4 : ((s.p b).ask == x) = true := by rw [beq_iff_eq]; exact h4
              clear hl h1 h4
              go_wp2
              refine wp_text 9 (by kernel_rfl) (by kernel_rfl) (by kernel_rfl) (by repeat' (first | (with_reducible apply tame_then) | (with_reducible apply tame_block) | (with_reducible apply tame_scope) | exact tame_gives | exact tame_body (fun _ _ h => ⟨_, h.1⟩))) ?_
              simp only [List.take_succ_cons, List.take_zero, List.drop_succ_cons, List.drop_zero]
              go_wp2
              refine headed ?_
              go_wp2
              go_ret
              exact ⟨by rw [HT.out]; rfl, f5, by
                rw [HT.out]
                have := HD.out
                simp only [upd_upd] at this
                exact this⟩
          · have HT := Lib.hid (HT0.out.trans ((congrArg (Prod.mk (0 : Int)) (if_neg hl)).trans (by unfold replyT; rw [HMX.out])))
            have HSC : Hid (ShortT 1000 { s with p := upd s.p b { s.p b with ck := x }, way := qput s.way (a, b) l }) := Lib.hid (HSH.out.pop HWY.out)
            obtain ⟨h1, h2⟩ := later_no hl
            rw [h1] at o2
            clear hl h1
            rcases h2 with h2 | ⟨h2, h3, h4 | ⟨h4, h5⟩⟩
            · go_wp2_with fail
              refine (send_any g gl bm n (keyR q a b :: R) w0 b a 0 f5 _ _ hn hb ha HSC.out HC.out).mono ?_
              rintro e w6 ⟨rfl, f6, h6⟩
              have H6 := Lib.hid h6
              clear h6 HC
              go_wp2
              go_ret
              exact ⟨by rw [HT.out]; rfl, f6, by rw [HT.out]; exact H6.out.drop2⟩
            · have e4 : ((s.p b).ask == x) = false := by rw [beq_eq_false_iff_ne]; exact h4
              clear h4
              go_wp2_with fail
              refine (send_any g gl bm n (keyR q a b :: R) w0 b a 0 f5 _ _ hn hb ha HSC.out HC.out).mono ?_
              rintro e w6 ⟨rfl, f6, h6⟩
              have H6 := Lib.hid h6
              clear h6 HC
              go_wp2
              go_ret
              exact ⟨by rw [HT.out]; rfl, f6, by rw [HT.out]; exact H6.out.drop2⟩
            · have e4 : ((s.p b).ask == x) = true := by rw [beq_iff_eq]; exact h4
              have e5 : ¬ ((b : Int) < (a : Int)) := by omega
              clear h4
              go_wp2_with fail
              refine (send_any g gl bm n (keyR q a b :: R) w0 b a 0 f5 _ _ hn hb ha HSC.out HC.out).mono ?_
              rintro e w6 ⟨rfl, f6, h6⟩
              have H6 := Lib.hid h6
              clear h6 HC
              go_wp2
              go_ret
              exact ⟨by rw [HT.out]; rfl, f6, by rw [HT.out]; exact H6.out.drop2⟩
        · have HMX : Hid (max (s.p b).ck x = (s.p b).ck) := Lib.hid (by omega)
          have HC := Lib.hid (tu_set 0 { s.p b with ck := (s.p b).ck } (u := .int .i64 ((s.p b).ck)) H5.out hb (by omega) rfl (fun j hj hjk => by
            rcases (show j = 0 ∨ j = 1 ∨ j = 2 ∨ j = 3 ∨ j = 4 by omega) with rfl | rfl | rfl | rfl | rfl <;> first | rfl | exact absurd rfl hjk
            ))
          by_cases hl : later b a x (s.p b)
          · have HT := Lib.hid (HT0.out.trans ((congrArg (Prod.mk (0 : Int)) (if_pos hl)).trans (by unfold deferT; rw [HMX.out])))
            have hor := or_pow (a := (s.p b).wt) (m := a) hw32 (by omega)
            have HD := Lib.hid ((tu_set 4 { s.p b with ck := (s.p b).ck, wt := (s.p b).wt ||| 2 ^ a } (u := .int .u32 (((s.p b).wt ||| 2 ^ a : Nat) : Int)) (tu_sim HC.out (w' := (W5.setCell ⟨gl, b * 5, none⟩ (.int .i64 ((s.p b).ck))).drew) ⟨rfl, rfl, rfl, rfl⟩) hb (by omega) rfl (fun j hj hjk => by
              show _ = oneV (upd s.p b _ b) j
              rw [upd_same]
              rcases (show j = 0 ∨ j = 1 ∨ j = 2 ∨ j = 3 ∨ j = 4 by omega) with rfl | rfl | rfl | rfl | rfl <;> first | rfl | exact absurd rfl hjk
              )).drop2)
            rcases later_yes hl with h1 | ⟨h1, h2, h3⟩ | ⟨h1, h2, h3, h4, h5⟩
            · rw [h1] at o2
              clear hl h1
              go_wp2
              refine wp_text 9 (by kernel_rfl) (by kernel_rfl) (by kernel_rfl) (by repeat' (first | (with_reducible apply tame_then) | (with_reducible apply tame_block) | (with_reducible apply tame_scope) | exact tame_gives | exact tame_body (fun _ _ h => ⟨_, h.1⟩))) ?_
              simp only [List.take_succ_cons, List.take_zero, List.drop_succ_cons, List.drop_zero]
              go_wp2
              refine headed ?_
              go_wp2
              go_ret
              exact ⟨by rw [HT.out]; rfl, f5, by
                rw [HT.out]
                have := HD.out
                simp only [upd_upd] at this
                exact this⟩
            · rw [h1] at o2
              clear hl h1
              go_wp2
              refine wp_text 9 (by kernel_rfl) (by kernel_rfl) (by kernel_rfl) (by repeat' (first | (with_reducible apply tame_then) | (with_reducible apply tame_block) | (with_reducible apply tame_scope) | exact tame_gives | exact tame_body (fun _ _ h => ⟨_, h.1⟩))) ?_
              simp only [List.take_succ_cons, List.take_zero, List.drop_succ_cons, List.drop_zero]
              go_wp2
              refine headed ?_
              go_wp2
              go_ret
              exact ⟨by rw [HT.out]; rfl, f5, by
                rw [HT.out]
                have := HD.out
                simp only [upd_upd] at this
                exact this⟩
            · rw [h1] at o2
              have e5 : ((b : Int) < (a : Int)) := by omega
              have e4 : ((s.p b).ask == x) = true := by rw [beq_iff_eq]; exact h4
              clear hl h1 h4
              go_wp2
              refine wp_text 9 (by kernel_rfl) (by kernel_rfl) (by kernel_rfl) (by repeat' (first | (with_reducible apply tame_then) | (with_reducible apply tame_block) | (with_reducible apply tame_scope) | exact tame_gives | exact tame_body (fun _ _ h => ⟨_, h.1⟩))) ?_
              simp only [List.take_succ_cons, List.take_zero, List.drop_succ_cons, List.drop_zero]
              go_wp2
              refine headed ?_
              go_wp2
              go_ret
              exact ⟨by rw [HT.out]; rfl, f5, by
                rw [HT.out]
                have := HD.out
                simp only [upd_upd] at this
                exact this⟩
          · have HT := Lib.hid (HT0.out.trans ((congrArg (Prod.mk (0 : Int)) (if_neg hl)).trans (by unfold replyT; rw [HMX.out])))
            have HSC : Hid (ShortT 1000 { s with p := upd s.p b { s.p b with ck := (s.p b).ck }, way := qput s.way (a, b) l }) := Lib.hid (HSH.out.pop HWY.out)
            obtain ⟨h1, h2⟩ := later_no hl
            rw [h1] at o2
            clear hl h1
            rcases h2 with h2 | ⟨h2, h3, h4 | ⟨h4, h5⟩⟩
            · go_wp2_with fail
              refine (send_any g gl bm n (keyR q a b :: R) w0 b a 0 f5 _ _ hn hb ha HSC.out HC.out).mono ?_
              rintro e w6 ⟨rfl, f6, h6⟩
              have H6 := Lib.hid h6
              clear h6 HC
              go_wp2
              go_ret
              exact ⟨by rw [HT.out]; rfl, f6, by rw [HT.out]; exact H6.out.drop2⟩
            · have e4 : ((s.p b).ask == x) = false := by rw [beq_eq_false_iff_ne]; exact h4
              clear h4
              go_wp2_with fail
              refine (send_any g gl bm n (keyR q a b :: R) w0 b a 0 f5 _ _ hn hb ha HSC.out HC.out).mono ?_
              rintro e w6 ⟨rfl, f6, h6⟩
              have H6 := Lib.hid h6
              clear h6 HC
              go_wp2
              go_ret
              exact ⟨by rw [HT.out]; rfl, f6, by rw [HT.out]; exact H6.out.drop2⟩
            · have e4 : ((s.p b).ask == x) = true := by rw [beq_iff_eq]; exact h4
              have e5 : ¬ ((b : Int) < (a : Int)) := by omega
              clear h4
              go_wp2_with fail
              refine (send_any g gl bm n (keyR q a b :: R) w0 b a 0 f5 _ _ hn hb ha HSC.out HC.out).mono ?_
              rintro e w6 ⟨rfl, f6, h6⟩
              have H6 := Lib.hid h6
              clear h6 HC
              go_wp2
              go_ret
              exact ⟨by rw [HT.out]; rfl, f6, by rw [HT.out]; exact H6.out.drop2⟩
    · have HP : Hid (∃ es c, (Instr.mapUpdate 42 (.map (some bm)) (.agg #[.int .i64 (a : Nat), .int .i64 (b : Nat)]) (.slice (some ⟨b1, off + 1, none⟩) l.length (cap - 1))).run Try.prog W.drew.drew.drew = .ok () (ChangeMaps.setBlock W.drew.drew.drew bm (.map es c)) ∧ LayT g gl bm n (keyR q a b :: R) w0 (fput f (a, b) (.slice (some ⟨b1, off + 1, none⟩) l.length (cap - 1))) { s with way := qput s.way (a, b) l } (ChangeMaps.setBlock W.drew.drew.drew bm (.map es c))) :=
        Lib.hid (tu_put (a, b) (HW.out.drew.drew.drew.pop (a, b) (v' := .slice (some ⟨b1, off + 1, none⟩) l.length (cap - 1)) (xs' := vI l) (HO.out.popS hc1 rfl) (by rw [HF.out]; rfl)) hn ⟨ha, hb⟩)
      obtain ⟨es, cc, hput, hL5⟩ := HP.out
      have HL5 := Lib.hid hL5
      clear HP hL5
      refine wp_text_all (by kernel_rfl) (by kernel_rfl) (by kernel_rfl) (by repeat' (first | (with_reducible apply tame_then) | (with_reducible apply tame_block) | (with_reducible apply tame_scope) | exact tame_gives | exact tame_body (fun _ _ h => ⟨_, h.1⟩))) ?_
      go_wp2
      refine headed ?_
      go_wp2
      refine wp_text_all (by kernel_rfl) (by kernel_rfl) (by kernel_rfl) (by repeat' (first | (with_reducible apply tame_then) | (with_reducible apply tame_block) | (with_reducible apply tame_scope) | exact tame_gives | exact tame_body (fun _ _ h => ⟨_, h.1⟩))) ?_
      go_wp2
      refine headed ?_
      go_wp2
      refine wp_text 12 (by kernel_rfl) (by kernel_rfl) (by kernel_rfl) (by repeat' (first | (with_reducible apply tame_then) | (with_reducible apply tame_block) | (with_reducible apply tame_scope) | exact tame_gives | exact tame_body (fun _ _ h => ⟨_, h.1⟩))) ?_
      simp only [List.take_succ_cons, List.take_zero, List.drop_succ_cons, List.drop_zero]
      go_wp2
      refine headed ?_
      refine wpList_updE rfl (.tmp 32) (.tmp 33) (.tmp 40) _ rfl rfl rfl rfl hput ?_
      clear hput
      refine at_layQ (F := fun W' => wpList _ _ _ [] _ W') HL5.out ?_
      intro W5 hW5
      have H5 : Hid (LayT g gl bm n (keyR q a b :: R) w0 (fput f (a, b) (.slice (some ⟨b1, off + 1, none⟩) l.length (cap - 1))) { s with way := qput s.way (a, b) l } W5) := Lib.hid hW5
      clear hW5 HL5 HW HO HF c0 c1 k0 k1 hc hl1 hl2 hl3
      generalize fput f (a, b) (.slice (some ⟨b1, off + 1, none⟩) l.length (cap - 1)) = f5 at H5
      obtain ⟨c0, c1⟩ := tu_heads H5.out
      obtain ⟨p0, p1, p2, p3, p4⟩ := tu_cells H5.out hb
      have o0 : W5.cell? ⟨gl, b * 5, none⟩ = some (.int .i64 (s.p b).ck) := p0
      have o1 : W5.cell? ⟨gl, b * 5 + 1, none⟩ = some (.int .i64 (s.p b).ask) := p1
      have o2 : W5.cell? ⟨gl, b * 5 + 2, none⟩ = some (.bool (s.p b).inn) := p2
      have o3 : W5.cell? ⟨gl, b * 5 + 3, none⟩ = some (.int .u32 ((s.p b).hv : Nat)) := p3
      have o4 : W5.cell? ⟨gl, b * 5 + 4, none⟩ = some (.int .u32 ((s.p b).wt : Nat)) := p4
      clear p0 p1 p2 p3 p4
      by_cases hx : x = 0
      · subst hx
        have HT := Lib.hid (HR.out.trans (congrArg (Prod.mk (0 : Int)) (if_pos rfl)))
        have f3 := H5.out.lay.frz 1 rfl (by omega) (b * 5 + 3)
        have hor := or_pow (a := (s.p b).hv) (m := a) h32 (by omega)
        have H6 := Lib.hid (tu_set 3 { s.p b with hv := (s.p b).hv ||| 2 ^ a } (u := .int .u32 (((s.p b).hv ||| 2 ^ a : Nat) : Int)) (tu_sim H5.out (w' := W5.drew) ⟨rfl, rfl, rfl, rfl⟩) hb (by omega) rfl (fun j hj hjk => by
          rcases (show j = 0 ∨ j = 1 ∨ j = 2 ∨ j = 3 ∨ j = 4 by omega) with rfl | rfl | rfl | rfl | rfl <;> first | rfl | exact absurd rfl hjk
          ))
        go_wp2
        refine wp_text 9 (by kernel_rfl) (by kernel_rfl) (by kernel_rfl) (by repeat' (first | (with_reducible apply tame_then) | (with_reducible apply tame_block) | (with_reducible apply tame_scope) | exact tame_gives | exact tame_body (fun _ _ h => ⟨_, h.1⟩))) ?_
        simp only [List.take_succ_cons, List.take_zero, List.drop_succ_cons, List.drop_zero]
        go_wp2
        refine headed ?_
        go_wp2_with fail
        refine (enter_any g gl bm n (keyR q a b :: R) w0 b f5 _ _ hn hb (by show (upd s.p b _ b).hv < _; rw [upd_same]; exact or_lt hbt.1 ha) H6.out).mono ?_
        rintro e w6 ⟨rfl, h6⟩
        have H7 := Lib.hid h6
        clear h6 H6 H5
        go_wp2
        go_ret
        exact ⟨by rw [HT.out]; rfl, f5, by rw [HT.out]; exact H7.out.drop2⟩
      · have HT0 := Lib.hid (HR.out.trans (congrArg (Prod.mk (0 : Int)) (if_neg hx)))
        have ex : (x == 0) = false := by rw [beq_eq_false_iff_ne]; exact hx
        have f0 := H5.out.lay.frz 1 rfl (by omega) (b * 5)
        have f4 := H5.out.lay.frz 1 rfl (by omega) (b * 5 + 4)
        have n01 := H5.out.lay.ne_ 0 1 rfl rfl (by omega)
        have n21 := H5.out.lay.ne_ 2 1 rfl rfl (by omega)
        clear hx
        by_cases hmc : (s.p b).ck < x
        · have HMX : Hid (max (s.p b).ck x = x) := Lib.hid (by omega)
          have HC := Lib.hid (tu_set 0 { s.p b with ck := x } (u := .int .i64 (x)) H5.out hb (by omega) rfl (fun j hj hjk => by
            rcases (show j = 0 ∨ j = 1 ∨ j = 2 ∨ j = 3 ∨ j = 4 by omega) with rfl | rfl | rfl | rfl | rfl <;> first | rfl | exact absurd rfl hjk
            ))
          by_cases hl : later b a x (s.p b)
          · have HT := Lib.hid (HT0.out.trans ((congrArg (Prod.mk (0 : Int)) (if_pos hl)).trans (by unfold deferT; rw [HMX.out])))
            have hor := or_pow (a := (s.p b).wt) (m := a) hw32 (by omega)
            have HD := Lib.hid ((tu_set 4 { s.p b with ck := x, wt := (s.p b).wt ||| 2 ^ a } (u := .int .u32 (((s.p b).wt ||| 2 ^ a : Nat) : Int)) (tu_sim HC.out (w' := (W5.setCell ⟨gl, b * 5, none⟩ (.int .i64 (x))).drew) ⟨rfl, rfl, rfl, rfl⟩) hb (by omega) rfl (fun j hj hjk => by
              show _ = oneV (upd s.p b _ b) j
              rw [upd_same]
              rcases (show j = 0 ∨ j = 1 ∨ j = 2 ∨ j = 3 ∨ j = 4 by omega) with rfl | rfl | rfl | rfl | rfl <;> first | rfl | exact absurd rfl hjk
              )).drop2)
            rcases later_yes hl with h1 | ⟨h1, h2, h3⟩ | ⟨h1, h2, h3, h4, h5⟩
            · rw [h1] at o2
              clear hl h1
              go_wp2
              refine wp_text 9 (by kernel_rfl) (by kernel_rfl) (by kernel_rfl) (by repeat' (first | (with_reducible apply tame_then) | (with_reducible apply tame_block) | (with_reducible apply tame_scope) | exact tame_gives | exact tame_body (fun _ _ h => ⟨_, h.1⟩))) ?_
              simp only [List.take_succ_cons, List.take_zero, List.drop_succ_cons, List.drop_zero]
              go_wp2
              refine headed ?_
              go_wp2
              go_ret
              exact ⟨by rw [HT.out]; rfl, f5, by
                rw [HT.out]
                have := HD.out
                simp only [upd_upd] at this
                exact this⟩
            · rw [h1] at o2
              clear hl h1
              go_wp2
              refine wp_text 9 (by kernel_rfl) (by kernel_rfl) (by kernel_rfl) (by repeat' (first | (with_reducible apply tame_then) | (with_reducible apply tame_block) | (with_reducible apply tame_scope) | exact tame_gives | exact tame_body (fun _ _ h => ⟨_, h.1⟩))) ?_
              simp only [List.take_succ_cons, List.take_zero, List.drop_succ_cons, List.drop_zero]
              go_wp2
              refine headed ?_
              go_wp2
              go_ret
              exact ⟨by rw [HT.out]; rfl, f5, by
                rw [HT.out]
                have := HD.out
                simp only [upd_upd] at this
                exact this⟩
            · rw [h1] at o2
              have e5 : ((b : Int) < (a : Int)) := by omega
              have e4 : ((s.p b).ask == x) = true := by rw [beq_iff_eq]; exact h4
              clear hl h1 h4
              go_wp2
              refine wp_text 9 (by kernel_rfl) (by kernel_rfl) (by kernel_rfl) (by repeat' (first | (with_reducible apply tame_then) | (with_reducible apply tame_block) | (with_reducible apply tame_scope) | exact tame_gives | exact tame_body (fun _ _ h => ⟨_, h.1⟩))) ?_
              simp only [List.take_succ_cons, List.take_zero, List.drop_succ_cons, List.drop_zero]
              go_wp2
              refine headed ?_
              go_wp2
              go_ret
              exact ⟨by rw [HT.out]; rfl, f5, by
                rw [HT.out]
                have := HD.out
                simp only [upd_upd] at this
                exact this⟩
          · have HT := Lib.hid (HT0.out.trans ((congrArg (Prod.mk (0 : Int)) (if_neg hl)).trans (by unfold replyT; rw [HMX.out])))
            have HSC : Hid (ShortT 1000 { s with p := upd s.p b { s.p b with ck := x }, way := qput s.way (a, b) l }) := Lib.hid (HSH.out.pop HWY.out)
            obtain ⟨h1, h2⟩ := later_no hl
            rw [h1] at o2
            clear hl h1
            rcases h2 with h2 | ⟨h2, h3, h4 | ⟨h4, h5⟩⟩
            · go_wp2_with fail
              refine (send_any g gl bm n (keyR q a b :: R) w0 b a 0 f5 _ _ hn hb ha HSC.out HC.out).mono ?_
              rintro e w6 ⟨rfl, f6, h6⟩
              have H6 := Lib.hid h6
              clear h6 HC
              go_wp2
              go_ret
              exact ⟨by rw [HT.out]; rfl, f6, by rw [HT.out]; exact H6.out.drop2⟩
            · have e4 : ((s.p b).ask == x) = false := by rw [beq_eq_false_iff_ne]; exact h4
              clear h4
              go_wp2_with fail
              refine (send_any g gl bm n (keyR q a b :: R) w0 b a 0 f5 _ _ hn hb ha HSC.out HC.out).mono ?_
              rintro e w6 ⟨rfl, f6, h6⟩
              have H6 := Lib.hid h6
              clear h6 HC
              go_wp2
              go_ret
              exact ⟨by rw [HT.out]; rfl, f6, by rw [HT.out]; exact H6.out.drop2⟩
            · have e4 : ((s.p b).ask == x) = true := by rw [beq_iff_eq]; exact h4
              have e5 : ¬ ((b : Int) < (a : Int)) := by omega
              clear h4
              go_wp2_with fail
              refine (send_any g gl bm n (keyR q a b :: R) w0 b a 0 f5 _ _ hn hb ha HSC.out HC.out).mono ?_
              rintro e w6 ⟨rfl, f6, h6⟩
              have H6 := Lib.hid h6
              clear h6 HC
              go_wp2
              go_ret
              exact ⟨by rw [HT.out]; rfl, f6, by rw [HT.out]; exact H6.out.drop2⟩
        · have HMX : Hid (max (s.p b).ck x = (s.p b).ck) := Lib.hid (by omega)
          have HC := Lib.hid (tu_set 0 { s.p b with ck := (s.p b).ck } (u := .int .i64 ((s.p b).ck)) H5.out hb (by omega) rfl (fun j hj hjk => by
            rcases (show j = 0 ∨ j = 1 ∨ j = 2 ∨ j = 3 ∨ j = 4 by omega) with rfl | rfl | rfl | rfl | rfl <;> first | rfl | exact absurd rfl hjk
            ))
          by_cases hl : later b a x (s.p b)
          · have HT := Lib.hid (HT0.out.trans ((congrArg (Prod.mk (0 : Int)) (if_pos hl)).trans (by unfold deferT; rw [HMX.out])))
            have hor := or_pow (a := (s.p b).wt) (m := a) hw32 (by omega)
            have HD := Lib.hid ((tu_set 4 { s.p b with ck := (s.p b).ck, wt := (s.p b).wt ||| 2 ^ a } (u := .int .u32 (((s.p b).wt ||| 2 ^ a : Nat) : Int)) (tu_sim HC.out (w' := (W5.setCell ⟨gl, b * 5, none⟩ (.int .i64 ((s.p b).ck))).drew) ⟨rfl, rfl, rfl, rfl⟩) hb (by omega) rfl (fun j hj hjk => by
              show _ = oneV (upd s.p b _ b) j
              rw [upd_same]
              rcases (show j = 0 ∨ j = 1 ∨ j = 2 ∨ j = 3 ∨ j = 4 by omega) with rfl | rfl | rfl | rfl | rfl <;> first | rfl | exact absurd rfl hjk
              )).drop2)
            rcases later_yes hl with h1 | ⟨h1, h2, h3⟩ | ⟨h1, h2, h3, h4, h5⟩
            · rw [h1] at o2
              clear hl h1
              go_wp2
              refine wp_text 9 (by kernel_rfl) (by kernel_rfl) (by kernel_rfl) (by repeat' (first | (with_reducible apply tame_then) | (with_reducible apply tame_block) | (with_reducible apply tame_scope) | exact tame_gives | exact tame_body (fun _ _ h => ⟨_, h.1⟩))) ?_
              simp only [List.take_succ_cons, List.take_zero, List.drop_succ_cons, List.drop_zero]
              go_wp2
              refine headed ?_
              go_wp2
              go_ret
              exact ⟨by rw [HT.out]; rfl, f5, by
                rw [HT.out]
                have := HD.out
                simp only [upd_upd] at this
                exact this⟩
            · rw [h1] at o2
              clear hl h1
              go_wp2
              refine wp_text 9 (by kernel_rfl) (by kernel_rfl) (by kernel_rfl) (by repeat' (first | (with_reducible apply tame_then) | (with_reducible apply tame_block) | (with_reducible apply tame_scope) | exact tame_gives | exact tame_body (fun _ _ h => ⟨_, h.1⟩))) ?_
              simp only [List.take_succ_cons, List.take_zero, List.drop_succ_cons, List.drop_zero]
              go_wp2
              refine headed ?_
              go_wp2
              go_ret
              exact ⟨by rw [HT.out]; rfl, f5, by
                rw [HT.out]
                have := HD.out
                simp only [upd_upd] at this
                exact this⟩
            · rw [h1] at o2
              have e5 : ((b : Int) < (a : Int)) := by omega
              have e4 : ((s.p b).ask == x) = true := by rw [beq_iff_eq]; exact h4
              clear hl h1 h4
              go_wp2
              refine wp_text 9 (by kernel_rfl) (by kernel_rfl) (by kernel_rfl) (by repeat' (first | (with_reducible apply tame_then) | (with_reducible apply tame_block) | (with_reducible apply tame_scope) | exact tame_gives | exact tame_body (fun _ _ h => ⟨_, h.1⟩))) ?_
              simp only [List.take_succ_cons, List.take_zero, List.drop_succ_cons, List.drop_zero]
              go_wp2
              refine headed ?_
              go_wp2
              go_ret
              exact ⟨by rw [HT.out]; rfl, f5, by
                rw [HT.out]
                have := HD.out
                simp only [upd_upd] at this
                exact this⟩
          · have HT := Lib.hid (HT0.out.trans ((congrArg (Prod.mk (0 : Int)) (if_neg hl)).trans (by unfold replyT; rw [HMX.out])))
            have HSC : Hid (ShortT 1000 { s with p := upd s.p b { s.p b with ck := (s.p b).ck }, way := qput s.way (a, b) l }) := Lib.hid (HSH.out.pop HWY.out)
            obtain ⟨h1, h2⟩ := later_no hl
            rw [h1] at o2
            clear hl h1
            rcases h2 with h2 | ⟨h2, h3, h4 | ⟨h4, h5⟩⟩
            · go_wp2_with fail
              refine (send_any g gl bm n (keyR q a b :: R) w0 b a 0 f5 _ _ hn hb ha HSC.out HC.out).mono ?_
              rintro e w6 ⟨rfl, f6, h6⟩
              have H6 := Lib.hid h6
              clear h6 HC
              go_wp2
              go_ret
              exact ⟨by rw [HT.out]; rfl, f6, by rw [HT.out]; exact H6.out.drop2⟩
            · have e4 : ((s.p b).ask == x) = false := by rw [beq_eq_false_iff_ne]; exact h4
              clear h4
              go_wp2_with fail
              refine (send_any g gl bm n (keyR q a b :: R) w0 b a 0 f5 _ _ hn hb ha HSC.out HC.out).mono ?_
              rintro e w6 ⟨rfl, f6, h6⟩
              have H6 := Lib.hid h6
              clear h6 HC
              go_wp2
              go_ret
              exact ⟨by rw [HT.out]; rfl, f6, by rw [HT.out]; exact H6.out.drop2⟩
            · have e4 : ((s.p b).ask == x) = true := by rw [beq_iff_eq]; exact h4
              have e5 : ¬ ((b : Int) < (a : Int)) := by omega
              clear h4
              go_wp2_with fail
              refine (send_any g gl bm n (keyR q a b :: R) w0 b a 0 f5 _ _ hn hb ha HSC.out HC.out).mono ?_
              rintro e w6 ⟨rfl, f6, h6⟩
              have H6 := Lib.hid h6
              clear h6 HC
              go_wp2
              go_ret
              exact ⟨by rw [HT.out]; rfl, f6, by rw [HT.out]; exact H6.out.drop2⟩
end
end Go.Proofs.Ytihkbkbbllmliaa
