/- The walk of token's 'come'. -/
import Derived.Test.YtihkbkbbllmliaaTk3
set_option linter.unusedVariables false
set_option linter.unusedSimpArgs false
namespace Go.Proofs.Ytihkbkbbllmliaa
open Go.RowKit Go.Maps Go.MapKept

theorem ShortK.pop {k f t : Nat} {x : Bool} {l : List Bool} {s : KS} (h : ShortK k s) (hw : s.way (f, t) = x :: l) : ShortK k (popK f t l s) := fun p => by
  show (qput s.way (f, t) l p).length ≤ k
  unfold qput; split
  · have := h (f, t); rw [hw] at this; simp at this; omega
  · exact h p
section
variable (g gp go bm n cp : Nat) (R : List LRow) (w0 : World)
set_option maxRecDepth 100000 in
set_option maxHeartbeats 1600000 in
theorem come_any (a b : Nat) (f : FK → Value) (s : KS) (w : World) (hn : n ≤ 6) (ha : a < n) (hb : b < n) (hpt : s.pt b < n) (hrow : ∀ x, x ∈ s.row b → x < n) (hrl : (s.row b).length ≤ 900) (hq : ShortK 900 s) (h : LayK g gp go bm n cp R w0 f s w) :
    Calls Try.prog 30 #[.pointer (some ⟨g, 0, none⟩), .int .i64 a, .int .i64 b] w fun e w' => e = .returned (.int .i64 (comeK a b s).1) ∧ ∃ f', LayK g gp go bm n cp R w0 f' (comeK a b s).2 w' := by
  have H := Lib.hid h; clear h
  have HSH := Lib.hid hq; clear hq
  obtain ⟨r, hr⟩ : ∃ r, r = comeK a b s := ⟨_, rfl⟩
  rw [← hr]
  have HK := Lib.hid (H.out.newB [.int .i64 a, .int .i64 b] 48 2 rfl w.heap.size rfl).rot3
  go_enter Try.func30, Try.ntmps30
  go_wp2
  refine at_layQ (F := fun W' => Code.wp _ _ _ _ W') HK.out ?_
  intro W hW
  have HW : Hid (LayK g gp go bm n cp (keyR3 w.heap.size a b :: R) w0 f s W) := Lib.hid hW
  clear hW HK H
  generalize w.heap.size = q at HW ⊢
  obtain ⟨c0, c1, c2, c3, c4⟩ := tk_heads HW.out
  clear c2 c3
  have k0 : W.cell? ⟨q, 0, none⟩ = some (.int .i64 a) := HW.out.lay.cellB 3 rfl 0 (by omega)
  have k1 : W.cell? ⟨q, 1, none⟩ = some (.int .i64 b) := HW.out.lay.cellB 3 rfl 1 (by omega)
  obtain ⟨A, cap, hf, hcl, hcm⟩ := HW.out.len (.inl (a, b))
  have hlen : (qsK s (.inl (a, b))).length = (s.way (a, b)).length := vB_len _
  rw [hlen] at hf hcl
  cases hw : s.way (a, b) with
  | nil =>
    have HR : Hid (r = (5, s)) := Lib.hid (by rw [hr]; unfold comeK; rw [hw])
    have hl0 : (Instr.lookup 56 (.map (some bm)) (.agg #[.int .i64 (a : Nat), .int .i64 (b : Nat)]) false).run Try.prog W.drew = .ok (.slice A 0 cap) W.drew := by
      rw [hw] at hf
      exact hf ▸ tk_look (a, b) HW.out.drew hn ⟨ha, hb⟩
    clear hf hcl hcm hlen hr hw c0 c1
    refine wp_text_all (by kernel_rfl) (by kernel_rfl) (by kernel_rfl) (by repeat' (first | (with_reducible apply tame_then) | (with_reducible apply tame_block) | (with_reducible apply tame_scope) | exact tame_gives | exact tame_body (fun _ _ h => ⟨_, h.1⟩))) ?_
    go_wp2
    refine headed ?_
    go_wp2
    go_ret
    exact ⟨by rw [HR.out]; rfl, f, by rw [HR.out]; exact HW.out.drew.drop3⟩
  | cons x l =>
    have HR : Hid (r = (0, if x = true then giveK b { popK a b l s with has := b, pt := upd s.pt b b } else standK b a (popK a b l s))) := Lib.hid (by rw [hr]; unfold comeK; rw [hw])
    have HWY := Lib.hid hw
    have hlen2 : (s.way (a, b)).length = l.length + 1 := by rw [hw]; rfl
    have hsh : l.length ≤ 1000 := by have := HSH.out (a, b); omega
    rw [hlen2] at hf hcl
    have ho := HW.out.own (.inl (a, b))
    rw [hf, show qsK s (.inl (a, b)) = vB (x :: l) by show vB (s.way (a, b)) = _; rw [hw]] at ho
    obtain ⟨b1, off, rfl, -, hc⟩ := ho.cell (j := 0) (x := .bool x) rfl
    have hc : W.cell? ⟨b1, off, none⟩ = some (.bool x) := hc
    have HO := Lib.hid ho
    have HF := Lib.hid hf
    have hl : ∀ W' : World, Sim W W' → (Instr.lookup 56 (.map (some bm)) (.agg #[.int .i64 (a : Nat), .int .i64 (b : Nat)]) false).run Try.prog W' = .ok (.slice (some ⟨b1, off, none⟩) (l.length + 1) cap) W' := fun W' hW' => by
      have := tk_look (a, b) (HW.out.sim (w' := W') hW') hn ⟨ha, hb⟩
      rw [hf] at this
      exact this
    have hl1 := hl W.drew ⟨rfl, rfl, rfl, rfl⟩
    have hl2 := hl W.drew.drew ⟨rfl, rfl, rfl, rfl⟩
    have hl3 := hl W.drew.drew.drew ⟨rfl, rfl, rfl, rfl⟩
    clear ho hf hlen hlen2 hw hr hl
    by_cases hc1 : cap = 1
    · subst hc1
      have HP : Hid (∃ es c, (Instr.mapUpdate 56 (.map (some bm)) (.agg #[.int .i64 (a : Nat), .int .i64 (b : Nat)]) (.slice (some ⟨b1, off, none⟩) 0 0)).run Try.prog W.drew.drew.drew = .ok () (ChangeMaps.setBlock W.drew.drew.drew bm (.map es c)) ∧ LayK g gp go bm n cp (keyR3 q a b :: R) w0 (fput f (.inl (a, b)) (.slice (some ⟨b1, off, none⟩) 0 0)) (popK a b l s) (ChangeMaps.setBlock W.drew.drew.drew bm (.map es c))) :=
        Lib.hid (tk_put (a, b) (HW.out.drew.drew.drew.pop (.inl (a, b)) (v' := .slice (some ⟨b1, off, none⟩) 0 0) (xs' := vB l) (HO.out.pop0 rfl (by omega)) (by rw [HF.out]; rfl)) hn ⟨ha, hb⟩)
      obtain ⟨es, cc, hput, hL5⟩ := HP.out
      have HL5 := Lib.hid hL5
      clear HP hL5
      refine wp_text_all (by kernel_rfl) (by kernel_rfl) (by kernel_rfl) (by repeat' (first | (with_reducible apply tame_then) | (with_reducible apply tame_block) | (with_reducible apply tame_scope) | exact tame_gives | exact tame_body (fun _ _ h => ⟨_, h.1⟩))) ?_
      go_wp2
      refine headed ?_
      go_wp2
      refine wp_text_all (by kernel_rfl) (by kernel_rfl) (by kernel_rfl) (by repeat' (first | (with_reducible apply tame_then) | (with_reducible apply tame_block) | (with_reducible apply tame_scope) | exact tame_gives | exact tame_body (fun _ _ h => ⟨_, h.1⟩))) ?_
      go_wp2
      refine headed ?_
      go_wp2
      refine wp_text 12 (by kernel_rfl) (by kernel_rfl) (by kernel_rfl) (by repeat' (first | (with_reducible apply tame_then) | (with_reducible apply tame_block) | (with_reducible apply tame_scope) | exact tame_gives | exact tame_body (fun _ _ h => ⟨_, h.1⟩))) ?_
      simp only [List.take_succ_cons, List.take_zero, List.drop_succ_cons, List.drop_zero]
      go_wp2
      refine headed ?_
      refine wpList_updE rfl (.tmp 31) (.tmp 32) (.tmp 39) _ rfl rfl rfl rfl hput ?_
      clear hput
      refine at_layQ (F := fun W' => wpList _ _ _ [] _ W') HL5.out ?_
      intro W5 hW5
      have H5 : Hid (LayK g gp go bm n cp (keyR3 q a b :: R) w0 (fput f (.inl (a, b)) (.slice (some ⟨b1, off, none⟩) 0 0)) (popK a b l s) W5) := Lib.hid hW5
      clear hW5 HL5 HW HO HF c0 c1 c4 k0 k1 hc hl1 hl2 hl3
      generalize fput f (.inl (a, b)) (.slice (some ⟨b1, off, none⟩) 0 0) = f5 at H5
      have HSP : Hid (ShortK 900 (popK a b l s)) := Lib.hid (HSH.out.pop HWY.out)
      cases x with
      | false =>
        go_wp2_with fail
        refine (stand_any g gp go bm n cp (keyR3 q a b :: R) w0 b a f5 (popK a b l s) _ hn hb ha hpt hrow hrl HSP.out H5.out).mono ?_
        rintro e w6 ⟨rfl, f6, h6⟩
        have H6 := Lib.hid h6
        clear h6
        go_wp2
        go_ret
        exact ⟨by rw [HR.out]; rfl, f6, by rw [HR.out]; exact H6.out.drop3⟩
      | true =>
        obtain ⟨c0, c1, c2, c3, c4⟩ := tk_heads H5.out
        have f2 := H5.out.lay.frz 0 rfl (by omega) 2
        have f1 := H5.out.lay.frz 1 rfl (by omega) b
        have n01 := H5.out.lay.ne_ 0 1 rfl rfl (by omega)
        have c5 : W5.cell? ⟨gp, b, none⟩ = some (.int .i64 (s.pt b : Nat)) := H5.out.lay.cell1 1 rfl hb
        go_wp2_with fail
        refine (give_any g gp go bm n cp (keyR3 q a b :: R) w0 b f5 { popK a b l s with has := b, pt := upd s.pt b b } _ hn hb hrow (Nat.le_trans hrl (by omega)) (ShortK.row (HSP.out.mono (by omega))) (tk_sim (tk_pt b (tk_sim (tk_has b H5.out) ⟨rfl, rfl, rfl, rfl⟩) hb) ⟨rfl, rfl, rfl, rfl⟩)).mono ?_
        rintro e w6 ⟨rfl, f6, h6⟩
        have H6 := Lib.hid h6
        clear h6
        go_wp2
        go_ret
        exact ⟨by rw [HR.out]; rfl, f6, by rw [HR.out]; exact H6.out.drop3⟩
    · have HP : Hid (∃ es c, (Instr.mapUpdate 56 (.map (some bm)) (.agg #[.int .i64 (a : Nat), .int .i64 (b : Nat)]) (.slice (some ⟨b1, off + 1, none⟩) l.length (cap - 1))).run Try.prog W.drew.drew.drew = .ok () (ChangeMaps.setBlock W.drew.drew.drew bm (.map es c)) ∧ LayK g gp go bm n cp (keyR3 q a b :: R) w0 (fput f (.inl (a, b)) (.slice (some ⟨b1, off + 1, none⟩) l.length (cap - 1))) (popK a b l s) (ChangeMaps.setBlock W.drew.drew.drew bm (.map es c))) :=
        Lib.hid (tk_put (a, b) (HW.out.drew.drew.drew.pop (.inl (a, b)) (v' := .slice (some ⟨b1, off + 1, none⟩) l.length (cap - 1)) (xs' := vB l) (HO.out.popS hc1 rfl) (by rw [HF.out]; rfl)) hn ⟨ha, hb⟩)
      obtain ⟨es, cc, hput, hL5⟩ := HP.out
      have HL5 := Lib.hid hL5
      clear HP hL5
      refine wp_text_all (by kernel_rfl) (by kernel_rfl) (by kernel_rfl) (by repeat' (first | (with_reducible apply tame_then) | (with_reducible apply tame_block) | (with_reducible apply tame_scope) | exact tame_gives | exact tame_body (fun _ _ h => ⟨_, h.1⟩))) ?_
      go_wp2
      refine headed ?_
      go_wp2
      refine wp_text_all (by kernel_rfl) (by kernel_rfl) (by kernel_rfl) (by repeat' (first | (with_reducible apply tame_then) | (with_reducible apply tame_block) | (with_reducible apply tame_scope) | exact tame_gives | exact tame_body (fun _ _ h => ⟨_, h.1⟩))) ?_
      go_wp2
      refine headed ?_
      go_wp2
      refine wp_text 12 (by kernel_rfl) (by kernel_rfl) (by kernel_rfl) (by repeat' (first | (with_reducible apply tame_then) | (with_reducible apply tame_block) | (with_reducible apply tame_scope) | exact tame_gives | exact tame_body (fun _ _ h => ⟨_, h.1⟩))) ?_
      simp only [List.take_succ_cons, List.take_zero, List.drop_succ_cons, List.drop_zero]
      go_wp2
      refine headed ?_
      refine wpList_updE rfl (.tmp 31) (.tmp 32) (.tmp 39) _ rfl rfl rfl rfl hput ?_
      clear hput
      refine at_layQ (F := fun W' => wpList _ _ _ [] _ W') HL5.out ?_
      intro W5 hW5
      have H5 : Hid (LayK g gp go bm n cp (keyR3 q a b :: R) w0 (fput f (.inl (a, b)) (.slice (some ⟨b1, off + 1, none⟩) l.length (cap - 1))) (popK a b l s) W5) := Lib.hid hW5
      clear hW5 HL5 HW HO HF c0 c1 c4 k0 k1 hc hl1 hl2 hl3
      generalize fput f (.inl (a, b)) (.slice (some ⟨b1, off + 1, none⟩) l.length (cap - 1)) = f5 at H5
      have HSP : Hid (ShortK 900 (popK a b l s)) := Lib.hid (HSH.out.pop HWY.out)
      cases x with
      | false =>
        go_wp2_with fail
        refine (stand_any g gp go bm n cp (keyR3 q a b :: R) w0 b a f5 (popK a b l s) _ hn hb ha hpt hrow hrl HSP.out H5.out).mono ?_
        rintro e w6 ⟨rfl, f6, h6⟩
        have H6 := Lib.hid h6
        clear h6
        go_wp2
        go_ret
        exact ⟨by rw [HR.out]; rfl, f6, by rw [HR.out]; exact H6.out.drop3⟩
      | true =>
        obtain ⟨c0, c1, c2, c3, c4⟩ := tk_heads H5.out
        have f2 := H5.out.lay.frz 0 rfl (by omega) 2
        have f1 := H5.out.lay.frz 1 rfl (by omega) b
        have n01 := H5.out.lay.ne_ 0 1 rfl rfl (by omega)
        have c5 : W5.cell? ⟨gp, b, none⟩ = some (.int .i64 (s.pt b : Nat)) := H5.out.lay.cell1 1 rfl hb
        go_wp2_with fail
        refine (give_any g gp go bm n cp (keyR3 q a b :: R) w0 b f5 { popK a b l s with has := b, pt := upd s.pt b b } _ hn hb hrow (Nat.le_trans hrl (by omega)) (ShortK.row (HSP.out.mono (by omega))) (tk_sim (tk_pt b (tk_sim (tk_has b H5.out) ⟨rfl, rfl, rfl, rfl⟩) hb) ⟨rfl, rfl, rfl, rfl⟩)).mono ?_
        rintro e w6 ⟨rfl, f6, h6⟩
        have H6 := Lib.hid h6
        clear h6
        go_wp2
        go_ret
        exact ⟨by rw [HR.out]; rfl, f6, by rw [HR.out]; exact H6.out.drop3⟩
end
end Go.Proofs.Ytihkbkbbllmliaa
