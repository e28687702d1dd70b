/- The walk of snap's 'take'. -/
import Derived.Test.YtfcgjmekeonemaaSn1
set_option linter.unusedVariables false
set_option linter.unusedSimpArgs false
namespace Go.Proofs.Ytfcgjmekeonemaa
open Go.RowKit Go.Maps Go.MapKept

theorem EMap.wide {α : Type} {P : Program} {k : TypeId} {z : Value} {κ : α → Value} {S S' : α → Prop} {n : Nat} {f : α → Value} {es : Array MapEntry} {clock : Nat} (h : EMap P k z κ S n f es clock) (hS : ∀ a, S a → S' a) : EMap P k z κ S' n f es clock :=
  ⟨h.stamped, h.keys, h.size, fun x hx => by obtain ⟨a, h1, h2⟩ := h.dom x hx; exact ⟨a, hS a h1, h2⟩, h.val, h.none_⟩
theorem EMap.fit {α : Type} {P : Program} {k : TypeId} {z : Value} {κ : α → Value} {S : α → Prop} {n : Nat} {f : α → Value} {es : Array MapEntry} {clock : Nat} (h : EMap P k z κ S n f es clock) : EMap P k z κ S es.size f es clock :=
  ⟨h.stamped, h.keys, Nat.le_refl _, h.dom, h.val, h.none_⟩
theorem zeroBl (u : World) : (zeroValue 4).run Try.prog u = .ok (.bool false) u := by kernel_rfl
section
variable {g gh gr gk gw bm bc n : Nat} {C D : Value} {R : List LRow} {w0 w : World} {f : FQ → Value} {s : SN}
theorem sn_closed (p : Nat × Nat) (h : LayN g gh gr gk gw bm bc n C D R w0 f s w) (hn : n ≤ 6) (hp : p.1 < n ∧ p.2 < n) : (Instr.lookup 52 (.map (some bc)) (keyQ p) false).run Try.prog w = .ok (.bool (s.closed p)) w := by
  obtain ⟨es, c, hb, hφ⟩ := h.mp 1 rfl
  obtain ⟨kl, hk⟩ := keyP p (by omega) (by omega)
  exact EMap.look hφ.1 hb (Keyed.of_law lawP) Try.underlying52 (zeroBl w) p hk
theorem sn_close (p : Nat × Nat) (h : LayN g gh gr gk gw bm bc n C D R w0 f s w) (hn : n ≤ 6) (hp : p.1 < n ∧ p.2 < n) :
    ∃ es c, (Instr.mapUpdate 52 (.map (some bc)) (keyQ p) (.bool true)).run Try.prog w = .ok () (ChangeMaps.setBlock w bc (.map es c)) ∧ LayN g gh gr gk gw bm bc n C D R w0 f { s with closed := qput s.closed p true } (ChangeMaps.setBlock w bc (.map es c)) := by
  obtain ⟨es, c, hb, hφ⟩ := h.mp 1 rfl
  obtain ⟨kl, hk⟩ := keyP p (by omega) (by omega)
  have hw : ∀ a, s.closed a = true → qput s.closed p true a = true := fun a ha => by rw [qput_at]; split <;> first | rfl | exact ha
  obtain ⟨es', c', h1, h2⟩ := EMap.update (hφ.1.wide hw) hb (Keyed.of_law lawP) Try.underlying52 keyQ_inj p (qput_same _ _ _) hk (.bool true)
  have h3 : closedE n (qput s.closed p true) es' c' := ⟨(h2.same fun a => by unfold fput; rw [qput_at]; split <;> rfl).fit, fun a ha => by
    rw [qput_at] at ha
    split at ha
    · rename_i e; rw [e]; exact hp
    · exact hφ.2 a ha⟩
  exact ⟨es', c', h1, (h.setM 1 rfl es' c' _ h3).sameQ fun a => by rcases a with a | a <;> rfl⟩
theorem sn_sim {w' : World} (h : LayN g gh gr gk gw bm bc n C D R w0 f s w) (e : Sim w w') : LayN g gh gr gk gw bm bc n C D R w0 f s w' := LayQ.sim h e
theorem sn_setH {i : Nat} (x : Int) (h : LayN g gh gr gk gw bm bc n C D R w0 f s w) (hi : i < n) : LayN g gh gr gk gw bm bc n C D R w0 f { s with have_ := upd s.have_ i x } (w.setCell ⟨gh, i, none⟩ (.int .i64 x)) :=
  (h.upd 1 (mk := Value.int .i64) x rfl hi).sameQ fun a => by rcases a with a | a <;> rfl
theorem vI_set (l : List Int) (j : Nat) (x : Int) : (vI l).set j (.int .i64 x) = vI (l.set j x) := by simp [vI, List.map_set]
/-- A cell of the inner rows. -/
theorem sn_inner {i j : Nat} (h : LayN g gh gr gk gw bm bc n C D R w0 f s w) (hi : i < n) (hj : j < n) : ∃ b off cap, f (.inr i) = .slice (some ⟨b, off, none⟩) n cap ∧ w.cell? ⟨b, off + j, none⟩ = some (.int .i64 (s.wayR (i, j))) ∧ n ≤ cap ∧ cap ≤ maxLen ∧ w.frozen? ⟨b, off + j, none⟩ = false ∧
    (∀ x, LayN g gh gr gk gw bm bc n C D R w0 f { s with wayR := qput s.wayR (i, j) x } (w.setCell ⟨b, off + j, none⟩ (.int .i64 x))) ∧ gw ≠ b ∧ g ≠ b ∧ gh ≠ b := by
  have hq : qsN n s (.inr i) = vI ((List.range n).map fun j => s.wayR (i, j)) := if_pos hi
  obtain ⟨A, cap, hf, h1, h2⟩ := h.len (.inr i)
  have ho := h.own (.inr i)
  rw [hf] at ho
  obtain ⟨b, off, rfl, hb, hc⟩ := ho.cell (j := j) (x := .int .i64 (s.wayR (i, j))) (by rw [hq]; simp [vI, hj])
  have hl : (qsN n s (.inr i)).length = n := by rw [hq, vI_len]; simp
  have hob : (f (.inr i)).ownBlock = some b := by rw [hf]; rfl
  have hne : ∀ (k : Nat) (r : LRow) (g' : Nat), (rowsN g gh gr gk gw bm bc n C D f s R)[k]? = some r → ablock r.a = some g' → g' ≠ b := by
    intro k r g' hk hr e
    rcases h.row (.inr i) k r hk with e1 | e1
    · rw [hob] at e1; cases e1
    · exact e1 (by rw [hob, hr, e])
  rw [hl] at hf h1
  refine ⟨b, off, cap, hf, hc, h1, h2, ho.frz _, fun x => ?_, hne 4 _ gw rfl rfl, hne 0 _ g rfl rfl, hne 1 _ gh rfl rfl⟩
  refine (h.poke (.inr i) (.int .i64 x) hf (by rw [hl]; exact hj)).sameQ fun a => ?_
  rcases a with p | a
  · rw [qput_ne (by simp)]; rfl
  · by_cases e : a = i
    · subst e
      rw [qput_same, hq, vI_set]
      show (if a < n then _ else _) = _
      rw [if_pos hi]
      congr 1
      apply List.ext_getElem?
      intro k
      rw [List.getElem?_set, List.getElem?_map, List.getElem?_map]
      by_cases hk : k < n
      · rw [List.getElem?_range hk]
        by_cases e : j = k
        · subst e
          simp [hj, qput_same]
        · rw [if_neg e]
          simp only [Option.map_some]
          rw [qput_ne (fun e' => e (Prod.mk.inj e').2.symm)]
      · rw [List.getElem?_eq_none (by simpa using hk)]
        simp
        omega
    · rw [qput_ne (fun h => e (Sum.inr.inj h))]
      show (if a < n then _ else _) = if a < n then _ else _
      split
      · congr 1
        refine List.map_congr_left fun k _ => ?_
        show qput s.wayR (i, j) x (a, k) = s.wayR (a, k)
        exact qput_ne (fun e' => e (Prod.mk.inj e').1)
      · rfl
end
abbrev keyR (q f t : Nat) : LRow := blk q 47 2 (ofL [.int .i64 (f : Nat), .int .i64 (t : Nat)])
theorem ShortN.pop {k f t : Nat} {x : Int} {l : List Int} {s : SN} (h : ShortN k s) (hw : s.way (f, t) = x :: l) : ShortN k { s with way := qput s.way (f, t) l } := fun p => by
  show (qput s.way (f, t) l p).length ≤ k
  rw [qput_at]; split
  · have := h (f, t); rw [hw] at this; simp at this; omega
  · exact h p
theorem recS_closed (n i : Nat) (s : SN) : (recS n i s).closed = s.closed := by unfold recS; split <;> rfl
section
variable (g gh gr gk gw bm bc n : Nat) (C D : Value) (R : List LRow) (w0 : World)
set_option maxRecDepth 100000 in
set_option maxHeartbeats 1000000 in
theorem takeN_any (a b : Nat) (f : FQ → Value) (s : SN) (w : World) (hn : n ≤ 6) (ha : a < n) (hb : b < n) (hab : a ≠ b) (hq : ShortN 1000 s) (hB : BN n s) (h : LayN g gh gr gk gw bm bc n C D R w0 f s w) :
    Calls Try.prog 19 #[.pointer (some ⟨g, 0, none⟩), .int .i64 a, .int .i64 b] w fun e w' => e = .returned (.int .i64 (takeN n a b s).1) ∧ ∃ f', LayN g gh gr gk gw bm bc n C D R w0 f' (takeN n a b s).2 w' := by
  obtain ⟨iI, hiI, hzI0, hzI1, hzI2⟩ := info_parts infoIntN
  have H := Lib.hid h; clear h
  have HSH := Lib.hid hq; clear hq
  obtain ⟨r, hr⟩ : ∃ r, r = takeN n a b s := ⟨_, rfl⟩
  rw [← hr]
  have HK := Lib.hid (H.out.newB [.int .i64 a, .int .i64 b] 47 2 rfl w.heap.size rfl).rot5
  go_enter Try.func19, Try.ntmps19
  go_wp2
  refine at_layQ (F := fun W' => Code.wp _ _ _ _ W') HK.out ?_
  intro W hW
  have HW : Hid (LayN g gh gr gk gw bm bc n C D (keyR w.heap.size a b :: R) w0 f s W) := Lib.hid hW
  clear hW HK H
  generalize w.heap.size = q at HW ⊢
  obtain ⟨c0, c1, c2, c3, c4, c7, c8⟩ := sn_heads HW.out
  have k0 : W.cell? ⟨q, 0, none⟩ = some (.int .i64 a) := HW.out.lay.cellB 5 rfl 0 (by omega)
  have k1 : W.cell? ⟨q, 1, none⟩ = some (.int .i64 b) := HW.out.lay.cellB 5 rfl 1 (by omega)
  obtain ⟨A, cap, hf, hcl, hcm⟩ := HW.out.len (.inl (a, b))
  have hlen : (qsN n s (.inl (a, b))).length = (s.way (a, b)).length := vI_len _
  rw [hlen] at hf hcl
  cases hw : s.way (a, b) with
  | nil =>
    have HR : Hid (r = (5, s)) := Lib.hid (by rw [hr]; unfold takeN; rw [hw])
    have hl0 : (Instr.lookup 50 (.map (some bm)) (.agg #[.int .i64 (a : Nat), .int .i64 (b : Nat)]) false).run Try.prog W.drew = .ok (.slice A 0 cap) W.drew := by
      rw [hw] at hf
      exact hf ▸ sn_look (a, b) HW.out.drew hn ⟨ha, hb⟩
    clear hf hcl hcm hlen hr hw c0 c1 c3 c4 c7 c8
    refine wp_text_all (by kernel_rfl) (by kernel_rfl) (by kernel_rfl) (by repeat' (first | (with_reducible apply tame_then) | (with_reducible apply tame_block) | (with_reducible apply tame_scope) | exact tame_gives | exact tame_body (fun _ _ h => ⟨_, h.1⟩))) ?_
    go_wp2
    refine headed ?_
    go_wp2
    go_ret
    exact ⟨by rw [HR.out]; rfl, f, by rw [HR.out]; exact HW.out.drew.drop5⟩
  | cons x l =>
    have HR : Hid (r = (0, takeT n a b x l s)) := Lib.hid (by rw [hr]; unfold takeN; rw [hw])
    have HWY := Lib.hid hw
    have hbx := hB.wy (a, b) ha hb x (by rw [hw]; exact List.mem_cons_self)
    have hbt := hB.hv b hb
    have hlen2 : (s.way (a, b)).length = l.length + 1 := by rw [hw]; rfl
    have hsh : l.length ≤ 1000 := by have := HSH.out (a, b); omega
    rw [hlen2] at hf hcl
    have ho := HW.out.own (.inl (a, b))
    rw [hf, show qsN n s (.inl (a, b)) = vI (x :: l) by show vI (s.way (a, b)) = _; rw [hw]] at ho
    obtain ⟨b1, off, rfl, -, hc⟩ := ho.cell (j := 0) (x := .int .i64 x) rfl
    have hc : W.cell? ⟨b1, off, none⟩ = some (.int .i64 x) := hc
    have HO := Lib.hid ho
    have HF := Lib.hid hf
    have hl : ∀ W' : World, Sim W W' → (Instr.lookup 50 (.map (some bm)) (.agg #[.int .i64 (a : Nat), .int .i64 (b : Nat)]) false).run Try.prog W' = .ok (.slice (some ⟨b1, off, none⟩) (l.length + 1) cap) W' := fun W' hW' => by
      have := sn_look (a, b) (HW.out.sim (w' := W') hW') hn ⟨ha, hb⟩
      rw [hf] at this
      exact this
    have hl1 := hl W.drew ⟨rfl, rfl, rfl, rfl⟩
    have hl2 := hl W.drew.drew ⟨rfl, rfl, rfl, rfl⟩
    have hl3 := hl W.drew.drew.drew ⟨rfl, rfl, rfl, rfl⟩
    clear ho hf hlen hlen2 hw hr hl
    by_cases hc1 : cap = 1
    · subst hc1
      have HP : Hid (∃ es c, (Instr.mapUpdate 50 (.map (some bm)) (.agg #[.int .i64 (a : Nat), .int .i64 (b : Nat)]) (.slice (some ⟨b1, off, none⟩) 0 0)).run Try.prog W.drew.drew.drew = .ok () (ChangeMaps.setBlock W.drew.drew.drew bm (.map es c)) ∧ LayN g gh gr gk gw bm bc n C D (keyR q a b :: R) w0 (fput f (.inl (a, b)) (.slice (some ⟨b1, off, none⟩) 0 0)) { s with way := qput s.way (a, b) l } (ChangeMaps.setBlock W.drew.drew.drew bm (.map es c))) :=
        Lib.hid (sn_put (a, b) (HW.out.drew.drew.drew.pop (.inl (a, b)) (v' := .slice (some ⟨b1, off, none⟩) 0 0) (xs' := vI l) (HO.out.pop0 rfl (by omega)) (by rw [HF.out]; rfl)) hn ⟨ha, hb⟩)
      obtain ⟨es, cc, hput, hL5⟩ := HP.out
      have HL5 := Lib.hid hL5
      clear HP hL5
      refine wp_text_all (by kernel_rfl) (by kernel_rfl) (by kernel_rfl) (by repeat' (first | (with_reducible apply tame_then) | (with_reducible apply tame_block) | (with_reducible apply tame_scope) | exact tame_gives | exact tame_body (fun _ _ h => ⟨_, h.1⟩))) ?_
      go_wp2
      refine headed ?_
      go_wp2
      refine wp_text_all (by kernel_rfl) (by kernel_rfl) (by kernel_rfl) (by repeat' (first | (with_reducible apply tame_then) | (with_reducible apply tame_block) | (with_reducible apply tame_scope) | exact tame_gives | exact tame_body (fun _ _ h => ⟨_, h.1⟩))) ?_
      go_wp2
      refine headed ?_
      go_wp2
      refine wp_text 12 (by kernel_rfl) (by kernel_rfl) (by kernel_rfl) (by repeat' (first | (with_reducible apply tame_then) | (with_reducible apply tame_block) | (with_reducible apply tame_scope) | exact tame_gives | exact tame_body (fun _ _ h => ⟨_, h.1⟩))) ?_
      simp only [List.take_succ_cons, List.take_zero, List.drop_succ_cons, List.drop_zero]
      go_wp2
      refine headed ?_
      refine wpList_updE rfl (.tmp 31) (.tmp 32) (.tmp 39) _ rfl rfl rfl rfl hput ?_
      clear hput
      refine at_layQ (F := fun W' => wpList _ _ _ [] _ W') HL5.out ?_
      intro W5 hW5
      have H5 : Hid (LayN g gh gr gk gw bm bc n C D (keyR q a b :: R) w0 (fput f (.inl (a, b)) (.slice (some ⟨b1, off, none⟩) 0 0)) { s with way := qput s.way (a, b) l } W5) := Lib.hid hW5
      clear hW5 HL5 HW HO HF c0 c1 c2 c3 c4 c7 c8 k0 k1 hc hl1 hl2 hl3
      generalize fput f (.inl (a, b)) (.slice (some ⟨b1, off, none⟩) 0 0) = f5 at H5
      obtain ⟨c0, c1, c2, c3, c4, c7, c8⟩ := sn_heads H5.out
      have k0 : W5.cell? ⟨q, 0, none⟩ = some (.int .i64 a) := H5.out.lay.cellB 5 rfl 0 (by omega)
      have k1 : W5.cell? ⟨q, 1, none⟩ = some (.int .i64 b) := H5.out.lay.cellB 5 rfl 1 (by omega)
      by_cases hx : x = 0
      · subst hx
        have HT := Lib.hid (HR.out.trans (congrArg (Prod.mk (0 : Int)) (if_pos rfl)))
        go_wp2_with fail
        refine (record_any g gh gr gk gw bm bc n C D (keyR q a b :: R) w0 b f5 { s with way := qput s.way (a, b) l } W5 hn hb (HSH.out.pop HWY.out) H5.out).mono ?_
        rintro e w6 ⟨rfl, f6, h6⟩
        obtain ⟨es6, cc6, hput, hL7⟩ := sn_close (a, b) h6.drew hn ⟨ha, hb⟩
        have H6 := Lib.hid h6
        have HL7 := Lib.hid hL7
        clear h6 hL7 H5 c0 c1 c2 c3 c4 c7 c8 k0 k1
        have c4 := (sn_heads H6.out).2.2.2.2.1
        have c0 := (sn_heads H6.out).1
        have k0 : w6.cell? ⟨q, 0, none⟩ = some (.int .i64 a) := H6.out.lay.cellB 5 rfl 0 (by omega)
        have k1 : w6.cell? ⟨q, 1, none⟩ = some (.int .i64 b) := H6.out.lay.cellB 5 rfl 1 (by omega)
        go_wp2_with fail
        refine wp_text 5 (by kernel_rfl) (by kernel_rfl) (by kernel_rfl) (by repeat' (first | (with_reducible apply tame_then) | (with_reducible apply tame_block) | (with_reducible apply tame_scope) | exact tame_gives | exact tame_body (fun _ _ h => ⟨_, h.1⟩))) ?_
        simp only [List.take_succ_cons, List.take_zero, List.drop_succ_cons, List.drop_zero]
        go_wp2
        refine headed ?_
        refine wpList_updE rfl (.tmp 48) (.tmp 49) (.const (.bool true)) _ rfl rfl rfl rfl hput ?_
        go_wp2
        go_ret
        exact ⟨by rw [HT.out]; rfl, f6, by
          rw [HT.out]
          have := HL7.out.drop5
          rw [recS_closed] at this
          exact this⟩
      · have HT := Lib.hid (HR.out.trans (congrArg (Prod.mk (0 : Int)) (if_neg hx)))
        have ex : (x == 0) = false := by rw [beq_eq_false_iff_ne]; exact hx
        have m0 : W5.cell? ⟨gh, b, none⟩ = some (.int .i64 (s.have_ b)) := H5.out.lay.cell1 1 rfl hb
        have m1 : W5.cell? ⟨gr, b, none⟩ = some (.bool (s.rec_ b)) := H5.out.lay.cell1 2 rfl hb
        have f1 := H5.out.lay.frz 1 rfl (by omega) b
        have n01 := H5.out.lay.ne_ 0 1 rfl rfl (by omega)
        have n12 := H5.out.lay.ne_ 2 1 rfl rfl (by omega)
        have n51 := H5.out.lay.ne_ 5 1 rfl rfl (by omega)
        have H6 := Lib.hid (sn_setH (s.have_ b + x) H5.out hb)
        clear hx
        cases hrb : s.rec_ b
        · rw [hrb] at m1
          have HRB := Lib.hid hrb
          clear hrb
          go_wp2
          refine wp_text_all (by kernel_rfl) (by kernel_rfl) (by kernel_rfl) (by repeat' (first | (with_reducible apply tame_then) | (with_reducible apply tame_block) | (with_reducible apply tame_scope) | exact tame_gives | exact tame_body (fun _ _ h => ⟨_, h.1⟩))) ?_
          go_wp2
          refine headed ?_
          go_wp2
          go_ret
          exact ⟨by rw [HT.out]; rfl, f5, by
            rw [HT.out]
            simp only [HRB.out, Bool.false_and, Bool.false_eq_true, if_false]
            exact H6.out.drew.drop5⟩
        · rw [hrb] at m1
          have HRB := Lib.hid hrb
          clear hrb
          have hlc : ∀ W' : World, Sim (W5.setCell ⟨gh, b, none⟩ (.int .i64 (s.have_ b + x))) W' → (Instr.lookup 52 (.map (some bc)) (.agg #[.int .i64 (a : Nat), .int .i64 (b : Nat)]) false).run Try.prog W' = .ok (.bool (s.closed (a, b))) W' := fun W' hS => (by have := sn_closed (a, b) (sn_sim H6.out hS) hn ⟨ha, hb⟩; exact this)
          have hlc1 := hlc (W5.setCell ⟨gh, b, none⟩ (.int .i64 (s.have_ b + x))).drew ⟨rfl, rfl, rfl, rfl⟩
          clear hlc
          cases hcb : s.closed (a, b)
          · rw [hcb] at hlc1
            have HCB := Lib.hid hcb
            clear hcb
            obtain ⟨b2, off2, cap2, hf2, hi1, hi2, hi3, hi4, hst, ne1, ne2, ne3⟩ := sn_inner H6.out ha hb
            have i0 : W5.cell? ⟨gw, a, none⟩ = some (f5 (.inr a)) := H5.out.lay.cell1 4 rfl ha
            rw [hf2] at i0
            have i1 : W5.cell? ⟨b2, off2 + b, none⟩ = some (.int .i64 (s.wayR (a, b))) := (World.cell?_setCell_other W5 _ _ _ (fun e => ne3 (congrArg Addr.block e))).symm.trans hi1
            have i2 : W5.frozen? ⟨b2, off2 + b, none⟩ = false := by
              have := H5.out.own (.inr a)
              rw [hf2] at this
              exact this.frz _
            have hbw := hB.wr (a, b) ha hb
            have n41 := H5.out.lay.ne_ 4 1 rfl rfl (by omega)
            have HS := Lib.hid (sn_sim (hst (s.wayR (a, b) + x)) (w' := ((W5.setCell ⟨gh, b, none⟩ (.int .i64 (s.have_ b + x))).setCell ⟨b2, off2 + b, none⟩ (.int .i64 (s.wayR (a, b) + x))).drew) ⟨rfl, rfl, rfl, rfl⟩)
            clear hst hf2 hi1 hi4
            go_wp2
            refine wp_text_all (by kernel_rfl) (by kernel_rfl) (by kernel_rfl) (by repeat' (first | (with_reducible apply tame_then) | (with_reducible apply tame_block) | (with_reducible apply tame_scope) | exact tame_gives | exact tame_body (fun _ _ h => ⟨_, h.1⟩))) ?_
            go_wp2
            refine headed ?_
            go_wp2
            go_ret
            exact ⟨by rw [HT.out]; rfl, f5, by
              rw [HT.out]
              simp only [HRB.out, HCB.out, Bool.not_false, Bool.and_true, if_true]
              exact HS.out.drop5⟩
          · rw [hcb] at hlc1
            have HCB := Lib.hid hcb
            clear hcb
            go_wp2
            refine wp_text_all (by kernel_rfl) (by kernel_rfl) (by kernel_rfl) (by repeat' (first | (with_reducible apply tame_then) | (with_reducible apply tame_block) | (with_reducible apply tame_scope) | exact tame_gives | exact tame_body (fun _ _ h => ⟨_, h.1⟩))) ?_
            go_wp2
            refine headed ?_
            go_wp2
            go_ret
            exact ⟨by rw [HT.out]; rfl, f5, by
              rw [HT.out]
              simp only [HRB.out, HCB.out, Bool.not_true, Bool.and_false, Bool.false_eq_true, if_false]
              exact H6.out.drew.drop5⟩
    · have HP : Hid (∃ es c, (Instr.mapUpdate 50 (.map (some bm)) (.agg #[.int .i64 (a : Nat), .int .i64 (b : Nat)]) (.slice (some ⟨b1, off + 1, none⟩) l.length (cap - 1))).run Try.prog W.drew.drew.drew = .ok () (ChangeMaps.setBlock W.drew.drew.drew bm (.map es c)) ∧ LayN g gh gr gk gw bm bc n C D (keyR q a b :: R) w0 (fput f (.inl (a, b)) (.slice (some ⟨b1, off + 1, none⟩) l.length (cap - 1))) { s with way := qput s.way (a, b) l } (ChangeMaps.setBlock W.drew.drew.drew bm (.map es c))) :=
        Lib.hid (sn_put (a, b) (HW.out.drew.drew.drew.pop (.inl (a, b)) (v' := .slice (some ⟨b1, off + 1, none⟩) l.length (cap - 1)) (xs' := vI l) (HO.out.popS hc1 rfl) (by rw [HF.out]; rfl)) hn ⟨ha, hb⟩)
      obtain ⟨es, cc, hput, hL5⟩ := HP.out
      have HL5 := Lib.hid hL5
      clear HP hL5
      refine wp_text_all (by kernel_rfl) (by kernel_rfl) (by kernel_rfl) (by repeat' (first | (with_reducible apply tame_then) | (with_reducible apply tame_block) | (with_reducible apply tame_scope) | exact tame_gives | exact tame_body (fun _ _ h => ⟨_, h.1⟩))) ?_
      go_wp2
      refine headed ?_
      go_wp2
      refine wp_text_all (by kernel_rfl) (by kernel_rfl) (by kernel_rfl) (by repeat' (first | (with_reducible apply tame_then) | (with_reducible apply tame_block) | (with_reducible apply tame_scope) | exact tame_gives | exact tame_body (fun _ _ h => ⟨_, h.1⟩))) ?_
      go_wp2
      refine headed ?_
      go_wp2
      refine wp_text 12 (by kernel_rfl) (by kernel_rfl) (by kernel_rfl) (by repeat' (first | (with_reducible apply tame_then) | (with_reducible apply tame_block) | (with_reducible apply tame_scope) | exact tame_gives | exact tame_body (fun _ _ h => ⟨_, h.1⟩))) ?_
      simp only [List.take_succ_cons, List.take_zero, List.drop_succ_cons, List.drop_zero]
      go_wp2
      refine headed ?_
      refine wpList_updE rfl (.tmp 31) (.tmp 32) (.tmp 39) _ rfl rfl rfl rfl hput ?_
      clear hput
      refine at_layQ (F := fun W' => wpList _ _ _ [] _ W') HL5.out ?_
      intro W5 hW5
      have H5 : Hid (LayN g gh gr gk gw bm bc n C D (keyR q a b :: R) w0 (fput f (.inl (a, b)) (.slice (some ⟨b1, off + 1, none⟩) l.length (cap - 1))) { s with way := qput s.way (a, b) l } W5) := Lib.hid hW5
      clear hW5 HL5 HW HO HF c0 c1 c2 c3 c4 c7 c8 k0 k1 hc hl1 hl2 hl3
      generalize fput f (.inl (a, b)) (.slice (some ⟨b1, off + 1, none⟩) l.length (cap - 1)) = f5 at H5
      obtain ⟨c0, c1, c2, c3, c4, c7, c8⟩ := sn_heads H5.out
      have k0 : W5.cell? ⟨q, 0, none⟩ = some (.int .i64 a) := H5.out.lay.cellB 5 rfl 0 (by omega)
      have k1 : W5.cell? ⟨q, 1, none⟩ = some (.int .i64 b) := H5.out.lay.cellB 5 rfl 1 (by omega)
      by_cases hx : x = 0
      · subst hx
        have HT := Lib.hid (HR.out.trans (congrArg (Prod.mk (0 : Int)) (if_pos rfl)))
        go_wp2_with fail
        refine (record_any g gh gr gk gw bm bc n C D (keyR q a b :: R) w0 b f5 { s with way := qput s.way (a, b) l } W5 hn hb (HSH.out.pop HWY.out) H5.out).mono ?_
        rintro e w6 ⟨rfl, f6, h6⟩
        obtain ⟨es6, cc6, hput, hL7⟩ := sn_close (a, b) h6.drew hn ⟨ha, hb⟩
        have H6 := Lib.hid h6
        have HL7 := Lib.hid hL7
        clear h6 hL7 H5 c0 c1 c2 c3 c4 c7 c8 k0 k1
        have c4 := (sn_heads H6.out).2.2.2.2.1
        have c0 := (sn_heads H6.out).1
        have k0 : w6.cell? ⟨q, 0, none⟩ = some (.int .i64 a) := H6.out.lay.cellB 5 rfl 0 (by omega)
        have k1 : w6.cell? ⟨q, 1, none⟩ = some (.int .i64 b) := H6.out.lay.cellB 5 rfl 1 (by omega)
        go_wp2_with fail
        refine wp_text 5 (by kernel_rfl) (by kernel_rfl) (by kernel_rfl) (by repeat' (first | (with_reducible apply tame_then) | (with_reducible apply tame_block) | (with_reducible apply tame_scope) | exact tame_gives | exact tame_body (fun _ _ h => ⟨_, h.1⟩))) ?_
        simp only [List.take_succ_cons, List.take_zero, List.drop_succ_cons, List.drop_zero]
        go_wp2
        refine headed ?_
        refine wpList_updE rfl (.tmp 48) (.tmp 49) (.const (.bool true)) _ rfl rfl rfl rfl hput ?_
        go_wp2
        go_ret
        exact ⟨by rw [HT.out]; rfl, f6, by
          rw [HT.out]
          have := HL7.out.drop5
          rw [recS_closed] at this
          exact this⟩
      · have HT := Lib.hid (HR.out.trans (congrArg (Prod.mk (0 : Int)) (if_neg hx)))
        have ex : (x == 0) = false := by rw [beq_eq_false_iff_ne]; exact hx
        have m0 : W5.cell? ⟨gh, b, none⟩ = some (.int .i64 (s.have_ b)) := H5.out.lay.cell1 1 rfl hb
        have m1 : W5.cell? ⟨gr, b, none⟩ = some (.bool (s.rec_ b)) := H5.out.lay.cell1 2 rfl hb
        have f1 := H5.out.lay.frz 1 rfl (by omega) b
        have n01 := H5.out.lay.ne_ 0 1 rfl rfl (by omega)
        have n12 := H5.out.lay.ne_ 2 1 rfl rfl (by omega)
        have n51 := H5.out.lay.ne_ 5 1 rfl rfl (by omega)
        have H6 := Lib.hid (sn_setH (s.have_ b + x) H5.out hb)
        clear hx
        cases hrb : s.rec_ b
        · rw [hrb] at m1
          have HRB := Lib.hid hrb
          clear hrb
          go_wp2
          refine wp_text_all (by kernel_rfl) (by kernel_rfl) (by kernel_rfl) (by repeat' (first | (with_reducible apply tame_then) | (with_reducible apply tame_block) | (with_reducible apply tame_scope) | exact tame_gives | exact tame_body (fun _ _ h => ⟨_, h.1⟩))) ?_
          go_wp2
          refine headed ?_
          go_wp2
          go_ret
          exact ⟨by rw [HT.out]; rfl, f5, by
            rw [HT.out]
            simp only [HRB.out, Bool.false_and, Bool.false_eq_true, if_false]
            exact H6.out.drew.drop5⟩
        · rw [hrb] at m1
          have HRB := Lib.hid hrb
          clear hrb
          have hlc : ∀ W' : World, Sim (W5.setCell ⟨gh, b, none⟩ (.int .i64 (s.have_ b + x))) W' → (Instr.lookup 52 (.map (some bc)) (.agg #[.int .i64 (a : Nat), .int .i64 (b : Nat)]) false).run Try.prog W' = .ok (.bool (s.closed (a, b))) W' := fun W' hS => (by have := sn_closed (a, b) (sn_sim H6.out hS) hn ⟨ha, hb⟩; exact this)
          have hlc1 := hlc (W5.setCell ⟨gh, b, none⟩ (.int .i64 (s.have_ b + x))).drew ⟨rfl, rfl, rfl, rfl⟩
          clear hlc
          cases hcb : s.closed (a, b)
          · rw [hcb] at hlc1
            have HCB := Lib.hid hcb
            clear hcb
            obtain ⟨b2, off2, cap2, hf2, hi1, hi2, hi3, hi4, hst, ne1, ne2, ne3⟩ := sn_inner H6.out ha hb
            have i0 : W5.cell? ⟨gw, a, none⟩ = some (f5 (.inr a)) := H5.out.lay.cell1 4 rfl ha
            rw [hf2] at i0
            have i1 : W5.cell? ⟨b2, off2 + b, none⟩ = some (.int .i64 (s.wayR (a, b))) := (World.cell?_setCell_other W5 _ _ _ (fun e => ne3 (congrArg Addr.block e))).symm.trans hi1
            have i2 : W5.frozen? ⟨b2, off2 + b, none⟩ = false := by
              have := H5.out.own (.inr a)
              rw [hf2] at this
              exact this.frz _
            have hbw := hB.wr (a, b) ha hb
            have n41 := H5.out.lay.ne_ 4 1 rfl rfl (by omega)
            have HS := Lib.hid (sn_sim (hst (s.wayR (a, b) + x)) (w' := ((W5.setCell ⟨gh, b, none⟩ (.int .i64 (s.have_ b + x))).setCell ⟨b2, off2 + b, none⟩ (.int .i64 (s.wayR (a, b) + x))).drew) ⟨rfl, rfl, rfl, rfl⟩)
            clear hst hf2 hi1 hi4
            go_wp2
            refine wp_text_all (by kernel_rfl) (by kernel_rfl) (by kernel_rfl) (by repeat' (first | (with_reducible apply tame_then) | (with_reducible apply tame_block) | (with_reducible apply tame_scope) | exact tame_gives | exact tame_body (fun _ _ h => ⟨_, h.1⟩))) ?_
            go_wp2
            refine headed ?_
            go_wp2
            go_ret
            exact ⟨by rw [HT.out]; rfl, f5, by
              rw [HT.out]
              simp only [HRB.out, HCB.out, Bool.not_false, Bool.and_true, if_true]
              exact HS.out.drop5⟩
          · rw [hcb] at hlc1
            have HCB := Lib.hid hcb
            clear hcb
            go_wp2
            refine wp_text_all (by kernel_rfl) (by kernel_rfl) (by kernel_rfl) (by repeat' (first | (with_reducible apply tame_then) | (with_reducible apply tame_block) | (with_reducible apply tame_scope) | exact tame_gives | exact tame_body (fun _ _ h => ⟨_, h.1⟩))) ?_
            go_wp2
            refine headed ?_
            go_wp2
            go_ret
            exact ⟨by rw [HT.out]; rfl, f5, by
              rw [HT.out]
              simp only [HRB.out, HCB.out, Bool.not_true, Bool.and_false, Bool.false_eq_true, if_false]
              exact H6.out.drew.drop5⟩
end
end Go.Proofs.Ytfcgjmekeonemaa
