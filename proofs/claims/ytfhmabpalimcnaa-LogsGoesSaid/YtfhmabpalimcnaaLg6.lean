/- The walk of logs' 'send'. -/
import Derived.Test.YtfhmabpalimcnaaLg5
set_option linter.unusedVariables false
set_option linter.unusedSimpArgs false
namespace Go.Proofs.Ytfhmabpalimcnaa
open Go.RowKit

theorem tell_eq {i t : Nat} {S : LS} {N : List Ent} {L1 : Nat} (h : sendLog (S.lg i) (S.lg t) (S.nx i t) = N) (hl : (S.lg i).length = L1) : tellL i t S = suS t (max (S.su t) (min (S.su i) L1)) (nxS i t L1 (haS i t L1 (lgS t N S))) := by
  subst h; subst hl; rfl
theorem lgS_self (t : Nat) (S : LS) : lgS t (S.lg t) S = S := by
  have : upd S.lg t (S.lg t) = S.lg := by
    funext j
    rw [upd_apply]
    split
    · rename_i e; rw [e]
    · rfl
  show { S with lg := upd S.lg t (S.lg t) } = S
  rw [this]
theorem addr_off (b o j : Nat) : (⟨b, o, none⟩ : Addr).add j = ⟨b, o + j, none⟩ := by unfold Addr.add; split <;> simp_all
theorem ap_some {b m : Nat} {f : Nat → Value} {w : World} (h : ∀ j, j < m → w.cell? ⟨b, j, none⟩ = some (f j)) : ∀ ad, some (⟨b, 0, none⟩ : Addr) = some ad → ∀ j, j < m → w.cell? (ad.add j) = some (f j) := by
  intro ad e j hj
  cases e
  rw [addr_off, Nat.zero_add]
  exact h j hj
theorem ent_one (l : List Ent) (j : Nat) : (entF l j).oneCell' = true := by unfold entF; split <;> rfl
theorem trm_take {a b : List Ent} {q : Nat} (hb : q ≤ b.length) : (∀ j, j < q → (b.take q ++ a.drop q)[j]? = b[j]?) ∧ ∀ j, (b.take q ++ a.drop q)[q + j]? = a[q + j]? := by
  refine ⟨fun j hj => ?_, fun j => ?_⟩
  · rw [List.getElem?_append_left (by simp; omega), List.getElem?_take, if_pos hj]
  · have hl : (b.take q).length = q := by simp; omega
    rw [List.getElem?_append_right (by omega), hl, Nat.add_sub_cancel_left, List.getElem?_drop]
theorem send_new {la lb : List Ent} {k q : Nat} (h : alike la lb (la.length - k) k = q) (h1 : q < la.length) (h2 : q ≤ lb.length) :
    (sendLog la lb k).length = la.length ∧ (∀ j, j < q * 2 → entF (sendLog la lb k) j = entF lb j) ∧ ∀ j, j < (la.length - q) * 2 → entF (sendLog la lb k) (q * 2 + j) = entF la (q * 2 + j) := by
  unfold sendLog
  rw [h, if_pos h1]
  obtain ⟨e1, e2⟩ := trm_take (a := la) h2
  refine ⟨by simp; omega, fun j hj => ?_, fun j hj => ?_⟩
  · unfold entF trm
    rw [e1 (j / 2) (by omega)]
  · have : (q * 2 + j) / 2 = q + j / 2 := by omega
    unfold entF trm
    rw [this, e2]
theorem alike_stop {a b : List Ent} {f k : Nat} (h : f = 0 ∨ ¬ k < b.length ∨ ¬ a[k]? = b[k]?) : alike a b f k = k := by
  cases f with
  | zero => rfl
  | succ f =>
    unfold alike
    rw [if_neg]
    rintro ⟨_, h2, h3⟩
    rcases h with h | h | h
    · omega
    · exact h h2
    · exact h h3
theorem alike_go {a b : List Ent} {L k : Nat} (hL : a.length = L) (h1 : k < L) (h2 : k < b.length) (h3 : a[k]? = b[k]?) : alike a b (L - k) k = alike a b (L - (k + 1)) (k + 1) := by
  obtain ⟨f, hf⟩ : ∃ f, L - k = f + 1 := ⟨L - k - 1, by omega⟩
  rw [hf, show L - (k + 1) = f by omega]
  conv => lhs; unfold alike
  rw [if_pos ⟨by omega, h2, h3⟩]
theorem infoEntLg : (Try.prog.info? 35).map (fun i => (i.zero, i.size, i.bytes)) = some (some (.agg #[.int .i64 0, .int .i64 0]), 2, 16) := by kernel_rfl
theorem miss_cases {la lb : List Ent} {k : Nat} (hk : k ≤ la.length) (h : missB la lb k = true) : lb.length < k ∨ ∃ m, k = m + 1 ∧ m < lb.length ∧ ((trm la m == trm lb m) = false ∨ ((trm la m == trm lb m) = true ∧ (vle la m == vle lb m) = false)) := by
  unfold missB at h
  by_cases h1 : lb.length < k
  · exact .inl h1
  · right
    rw [decide_eq_false h1, Bool.false_or, Bool.and_eq_true, decide_eq_true_eq, Bool.not_eq_true'] at h
    obtain ⟨m, rfl⟩ : ∃ m, k = m + 1 := ⟨k - 1, by omega⟩
    refine ⟨m, rfl, by omega, ?_⟩
    have h2 := h.2
    rw [Nat.add_sub_cancel] at h2
    have h3 : ¬ la[m]? = lb[m]? := by simpa using h2
    rw [same_ent (by omega) (by omega)] at h3
    by_cases e : trm la m = trm lb m
    · right
      exact ⟨by simpa using e, by simpa using fun e2 => h3 ⟨e, e2⟩⟩
    · left; simpa using e
theorem miss_none {la lb : List Ent} {k : Nat} (hk : k ≤ la.length) (h : missB la lb k = false) : k = 0 ∨ ∃ m, k = m + 1 ∧ m < lb.length ∧ (trm la m == trm lb m) = true ∧ (vle la m == vle lb m) = true := by
  have := miss_no h
  rcases Nat.eq_zero_or_pos k with e | e
  · exact .inl e
  · right
    obtain ⟨m, rfl⟩ : ∃ m, k = m + 1 := ⟨k - 1, by omega⟩
    have h2 := this.2 e
    rw [Nat.add_sub_cancel, same_ent (by omega) (by omega)] at h2
    exact ⟨m, rfl, by omega, by simpa using h2.1, by simpa using h2.2⟩
theorem cast_beq {x y : Nat} {b : Bool} (h : (x == y) = b) : (((x : Nat) : Int) == ((y : Nat) : Int)) = b := by
  rw [← h, Bool.eq_iff_iff, beq_iff_eq, beq_iff_eq]; omega
section
variable (gg g gl lo n : Nat) (s : LS) (A : Option Addr) (cap : Nat) (a : LA) (R : List LRow) (w0 w : World)
set_option maxRecDepth 100000 in
set_option maxHeartbeats 2000000 in
theorem sendL_any (i t : Nat) (hi : i < n) (ht : t < n) (hit : i ≠ t) (hn : n ≤ 6) (hB : LB n 100 s) (hd : LdOk n a s) (h : Lay w0 w (rowsG gg g gl lo n s A cap a R)) :
    Calls Try.prog 22 #[.pointer (some ⟨gg, 0, none⟩), .int .i64 i, .int .i64 t] w fun e w' => e = .returned (.int .i64 (sendL i t s).1) ∧ ∃ a', LdOk n a' (sendL i t s).2 ∧ Lay w0 w' (rowsG gg g gl lo n (sendL i t s).2 A cap a' R) := by
  have H := Lib.hid h; clear h
  obtain ⟨iE, hiE, hzE0, hzE1, hzE2⟩ := info_parts infoEntLg
  obtain ⟨r, hr⟩ : ∃ r, r = sendL i t s := ⟨_, rfl⟩
  rw [← hr]
  unfold sendL at hr
  have hcode : (beatS i t s.e).1 = 5 ∨ (beatS i t s.e).1 = 8 ∨ (beatS i t s.e).1 = 0 := by
    unfold beatS; split
    · simp
    · split <;> simp
  have hbeat : (beatS i t s.e).1 = 0 → s.e.R i = 2 := fun h => (beat_ok h).1
  obtain ⟨d0, d1⟩ := lg_heads H.out
  go_enter Try.func22, Try.ntmps22
  go_wp2_with fail
  refine (beat_any g gl n s.e A cap _ w0 _ i t hi ht hB.e H.out).mono ?_
  rintro e w1 ⟨rfl, h1⟩
  generalize beatS i t s.e = q at hr hcode hbeat h1 ⊢
  obtain ⟨q1, q2⟩ := q
  have H1 : Hid (Lay w0 w1 (rowsG gg g gl lo n (setEL s q2) A cap a R)) := Lib.hid h1
  have HR := Lib.hid hr
  clear h1 hr H d0 d1
  rcases hcode with rfl | rfl | rfl
  · have HR2 := Lib.hid (HR.out.trans (if_pos (by simp)))
    clear HR
    go_wp2
    go_ret
    have e9 := HR2.out
    subst e9
    exact ⟨rfl, a, hd, H1.out⟩
  · have HR2 := Lib.hid (HR.out.trans (if_pos (by simp)))
    clear HR
    go_wp2
    go_ret
    have e9 := HR2.out
    subst e9
    exact ⟨rfl, a, hd, H1.out⟩
  have hR := hbeat rfl
  clear hbeat
  have hld := hB.ld i hR
  obtain ⟨hhn, hnn⟩ := hd i hld.1
  have HR2 := HR.out.trans (if_neg (by simp))
  obtain ⟨S, hS⟩ : ∃ S, setEL s q2 = S := ⟨_, rfl⟩
  have hl1 : (S.lg i).length ≤ 30 := by rw [← hS]; exact hB.len i
  have hl2 : (S.lg t).length ≤ 30 := by rw [← hS]; exact hB.len t
  have hs1 : S.su i ≤ 30 := by rw [← hS]; exact hB.su i
  have hs2 : S.su t ≤ 30 := by rw [← hS]; exact hB.su t
  have hk1 : S.nx i t ≤ (S.lg i).length := by rw [← hS]; exact hld.2 t
  have hdS : LdOk n a S := by rw [← hS]; exact hd
  have HR3 : Hid (r = if missB (S.lg i) (S.lg t) (S.nx i t) then (3, backL i t S) else (0, tellL i t S)) := Lib.hid (by rw [← hS]; exact HR2)
  rw [hS] at H1
  clear HR HR2 hS hld hR hd hB
  obtain ⟨la, hla⟩ : ∃ la, S.lg i = la := ⟨_, rfl⟩
  obtain ⟨lb, hlb⟩ : ∃ lb, S.lg t = lb := ⟨_, rfl⟩
  obtain ⟨k, hk⟩ : ∃ k, S.nx i t = k := ⟨_, rfl⟩
  obtain ⟨L1, hL1⟩ : ∃ L1, la.length = L1 := ⟨_, rfl⟩
  obtain ⟨L2, hL2⟩ : ∃ L2, lb.length = L2 := ⟨_, rfl⟩
  rw [hla, hL1] at hl1 hk1
  rw [hlb, hL2] at hl2
  rw [hk] at hk1
  rw [hla, hlb, hk] at HR3
  have HD := Lib.hid hdS
  have HN := Lib.hid (And.intro hla (And.intro hlb (And.intro hk (And.intro hL1 hL2))))
  clear hdS
  obtain ⟨d0, d1⟩ := lg_heads H1.out
  obtain ⟨c0, -, -, c3⟩ := lg_cells H1.out (i := i) hi
  obtain ⟨e0, -, -, -⟩ := lg_cells H1.out (i := t) ht
  obtain ⟨bh, bn, hbh, hbn, -, hbn2, hcell⟩ := lg_hn H1.out hi hhn hnn
  obtain ⟨-, -, x0, x1⟩ := hcell t ht
  rw [hk] at x0
  rw [hla, hL1] at c0
  rw [hlb, hL2] at e0
  rw [hbn, hnn] at c3
  have HH := Lib.hid (And.intro hbh (And.intro hbn (And.intro hhn hnn)))
  clear hcell hbh hbn hhn hnn hla hlb hk hL1 hL2
  cases hm : missB la lb k
  case true =>
    obtain ⟨m, rfl⟩ : ∃ m, k = m + 1 := by
      have := miss_cases (by rw [HN.out.2.2.2.1]; exact hk1) hm
      rcases this with h | ⟨m, h, _⟩
      · exact ⟨k - 1, by omega⟩
      · exact ⟨m, h⟩
    have hbk : backL i t S = nxS i t m S := by
      show { S with nx := upd S.nx i (upd (S.nx i) t (S.nx i t - 1)) } = _
      rw [HN.out.2.2.1]; rfl
    have hr4 := HR3.out.trans (if_pos hm)
    rw [hbk] at hr4
    have HR4 := Lib.hid hr4
    have HX := Lib.hid (lg_nxset (x := m) H1.out.drew hi ht HH.out.2.1 HH.out.2.2.2)
    clear HR3 hr4 hbk
    rcases miss_cases (by rw [HN.out.2.2.2.1]; exact hk1) hm with hA | ⟨m', e, hml, hdf⟩
    · rw [HN.out.2.2.2.2] at hA
      clear hm
      go_wp2
      refine wp_text_all (by kernel_rfl) (by kernel_rfl) (by kernel_rfl) (by repeat' (first | (with_reducible apply tame_then) | (with_reducible apply tame_block) | (with_reducible apply tame_scope) | exact tame_gives | exact tame_body (fun _ _ h => ⟨_, h.1⟩))) ?_
      go_wp2
      refine headed ?_
      go_wp2
      refine wp_text_all (by kernel_rfl) (by kernel_rfl) (by kernel_rfl) (by repeat' (first | (with_reducible apply tame_then) | (with_reducible apply tame_block) | (with_reducible apply tame_scope) | exact tame_gives | exact tame_body (fun _ _ h => ⟨_, h.1⟩))) ?_
      go_wp2
      refine headed ?_
      go_wp2
      go_ret
      have e9 := HR4.out
      subst e9
      exact ⟨rfl, a, HD.out, HX.out.sim ⟨rfl, rfl, rfl, rfl⟩⟩
    · obtain rfl : m = m' := by omega
      clear e
      rw [HN.out.2.2.2.2] at hml
      clear hm
      obtain ⟨b1, hb1, -, y0, y1a⟩ := lg_ent H1.out hi (k := m) (by rw [HN.out.1, HN.out.2.2.2.1]; omega)
      obtain ⟨b2, hb2, -, z0, z1a⟩ := lg_ent H1.out ht (k := m) (by rw [HN.out.2.1, HN.out.2.2.2.2]; omega)
      rw [HN.out.1] at y0 y1a
      rw [HN.out.2.1] at z0 z1a
      have y1 : w1.cell? ⟨b1, m * 2 + 1, none⟩ = some (.int .i64 (vle la m)) := y1a
      have z1 : w1.cell? ⟨b2, m * 2 + 1, none⟩ = some (.int .i64 (vle lb m)) := z1a
      clear y1a z1a
      rw [hb1] at c0
      rw [hb2] at e0
      clear hb1 hb2
      generalize trm la m = u1 at y0 hdf
      generalize trm lb m = u2 at z0 hdf
      generalize vle la m = v1 at y1 hdf
      generalize vle lb m = v2 at z1 hdf
      rcases hdf with f1 | ⟨f1, f2⟩
      all_goals
        have f1' := cast_beq f1
        clear f1
        go_wp2
        refine wp_text_all (by kernel_rfl) (by kernel_rfl) (by kernel_rfl) (by repeat' (first | (with_reducible apply tame_then) | (with_reducible apply tame_block) | (with_reducible apply tame_scope) | exact tame_gives | exact tame_body (fun _ _ h => ⟨_, h.1⟩))) ?_
        go_wp2
        refine headed ?_
        go_wp2
        refine wp_text_all (by kernel_rfl) (by kernel_rfl) (by kernel_rfl) (by repeat' (first | (with_reducible apply tame_then) | (with_reducible apply tame_block) | (with_reducible apply tame_scope) | exact tame_gives | exact tame_body (fun _ _ h => ⟨_, h.1⟩))) ?_
        go_wp2
        refine headed ?_
        go_wp2
        go_ret
        have e9 := HR4.out
        subst e9
        exact ⟨rfl, a, HD.out, HX.out.sim ⟨rfl, rfl, rfl, rfl⟩⟩
  case false =>
    have hr5 := HR3.out.trans (if_neg (by rw [hm]; simp))
    have HR5 := Lib.hid hr5
    clear HR3 hr5
    have hkl := (miss_no hm).1
    rw [HN.out.2.2.2.2] at hkl
    rcases miss_none (by rw [HN.out.2.2.2.1]; exact hk1) hm with rfl | ⟨m, rfl, hml, g1, g2⟩
    · clear hm
      go_wp2
      refine wp_text_all (by kernel_rfl) (by kernel_rfl) (by kernel_rfl) (by repeat' (first | (with_reducible apply tame_then) | (with_reducible apply tame_block) | (with_reducible apply tame_scope) | exact tame_gives | exact tame_body (fun _ _ h => ⟨_, h.1⟩))) ?_
      go_wp2
      refine headed ?_
      go_wp2
      refine wp_text_all (by kernel_rfl) (by kernel_rfl) (by kernel_rfl) (by repeat' (first | (with_reducible apply tame_then) | (with_reducible apply tame_block) | (with_reducible apply tame_scope) | exact tame_gives | exact tame_body (fun _ _ h => ⟨_, h.1⟩))) ?_
      go_wp2
      refine headed ?_
      go_wp2
      go_loopw [10] (fun i wr => ∃ q : Nat, (0) ≤ q ∧ q ≤ L1 ∧ q ≤ L2 ∧ i = .int .i64 q ∧ Hid (alike la lb (L1 - q) q = alike la lb (L1 - (0)) (0)) ∧ Hid (Lay w0 wr (rowsG gg g gl lo n S A cap a R))) (fun i _ => L1 - (intOf i).toNat)
      case atStart => exact ⟨0, Nat.le_refl _, by omega, by omega, rfl, Lib.hid rfl, H1.out.sim ⟨rfl, rfl, rfl, rfl⟩⟩
      case round =>
        clear H1
        obtain ⟨q, hkq, hq1, hq2, rfl, HAL, HQ⟩ := hrel
        obtain ⟨c0, -, -, -⟩ := lg_cells HQ.out (i := i) hi
        obtain ⟨e0, -, -, -⟩ := lg_cells HQ.out (i := t) ht
        rw [HN.out.1, HN.out.2.2.2.1] at c0
        rw [HN.out.2.1, HN.out.2.2.2.2] at e0
        by_cases hlt1 : q < L1
        · by_cases hlt2 : q < L2
          · obtain ⟨b1, hb1, -, y0, y1a⟩ := lg_ent HQ.out hi (k := q) (by rw [HN.out.1, HN.out.2.2.2.1]; omega)
            obtain ⟨b2, hb2, -, z0, z1a⟩ := lg_ent HQ.out ht (k := q) (by rw [HN.out.2.1, HN.out.2.2.2.2]; omega)
            rw [HN.out.1] at y0 y1a
            rw [HN.out.2.1] at z0 z1a
            have y1 : wr.cell? ⟨b1, q * 2 + 1, none⟩ = some (.int .i64 (vle la q)) := y1a
            have z1 : wr.cell? ⟨b2, q * 2 + 1, none⟩ = some (.int .i64 (vle lb q)) := z1a
            clear y1a z1a
            rw [hb1] at c0
            rw [hb2] at e0
            clear hb1 hb2
            have HE := Lib.hid (same_ent (a := la) (b := lb) (k := q) (by rw [HN.out.2.2.2.1]; omega) (by rw [HN.out.2.2.2.2]; omega))
            generalize trm la q = u1 at y0 HE
            generalize trm lb q = u2 at z0 HE
            generalize vle la q = v1 at y1 HE
            generalize vle lb q = v2 at z1 HE
            obtain ⟨f1, hf1⟩ : ∃ f, (u1 == u2) = f := ⟨_, rfl⟩
            obtain ⟨f2, hf2⟩ : ∃ f, (v1 == v2) = f := ⟨_, rfl⟩
            have hf1' := cast_beq hf1
            have HF := Lib.hid hf1
            clear hf1
            cases f1
            · have HEX := Lib.hid (alike_stop (a := la) (b := lb) (f := L1 - q) (k := q) (.inr (.inr (fun h => by
                have h2 := HF.out
                rw [(HE.out.1 h).1, beq_self_eq_true] at h2; cases h2))))
              go_wp2
              refine wp_text_all (by kernel_rfl) (by kernel_rfl) (by kernel_rfl) (by repeat' (first | (with_reducible apply tame_then) | (with_reducible apply tame_block) | (with_reducible apply tame_scope) | exact tame_gives | exact tame_body (fun _ _ h => ⟨_, h.1⟩))) ?_
              go_wp2
              refine headed ?_
              go_wp2
              have HAQ : Hid (alike la lb (L1 - (0)) (0) = q) := Lib.hid (HAL.out.symm.trans HEX.out)
              refine at_lay (F := fun W' => Code.wp _ _ _ _ W') (HQ.out.sim ⟨rfl, rfl, rfl, rfl⟩) ?_
              intro W hW
              have HW := Lib.hid hW
              clear hW HQ HAL HEX c0 e0
              obtain ⟨o1, -, -⟩ := lg_own HW.out hi
              obtain ⟨o2, -, -⟩ := lg_own HW.out ht
              obtain ⟨c0, -, -, -⟩ := lg_cells HW.out (i := i) hi
              obtain ⟨e0, -, -, -⟩ := lg_cells HW.out (i := t) ht
              rw [HN.out.1, HN.out.2.2.2.1] at o1 c0
              rw [HN.out.2.1, HN.out.2.2.2.2] at o2 e0
              obtain ⟨b1, hb1, -, hb1l, p1, -⟩ := o1.pos (by omega)
              obtain ⟨hcp1, hcp2⟩ := o1.le
              obtain ⟨hcq1, hcq2⟩ := o2.le
              rw [hb1] at c0
              have h2A : (a.A t = none ∧ q = 0 ∧ L2 = 0) ∨ ∃ b2, a.A t = some ⟨b2, 0, none⟩ ∧ ∀ j, j < q * 2 → W.cell? ⟨b2, j, none⟩ = some (entF lb j) := by
                rcases o2 with ⟨x1, x2, -⟩ | ⟨b2, cur, x1, -, x3, -, -, -, x7⟩
                · exact .inl ⟨x1, by omega, x2⟩
                · refine .inr ⟨b2, x1, fun j hj => ?_⟩
                  rw [cell_of_row _ _ _ _ _ _ x3]
                  exact x7 j (by omega)
              have HNW := Lib.hid (send_new (la := la) (lb := lb) (k := 0) (q := q) (by rw [HN.out.2.2.2.1]; exact HAQ.out) (by rw [HN.out.2.2.2.1]; exact hlt1) (by rw [HN.out.2.2.2.2]; exact hq2))
              obtain ⟨N, hN⟩ : ∃ N, sendLog la lb (0) = N := ⟨_, rfl⟩
              rw [hN, HN.out.2.2.2.1] at HNW
              have HNN := Lib.hid hN
              generalize hcpe : a.c i = cp at c0 hcp1 hcp2
              generalize hcqe : a.c t = cq at e0 hcq1 hcq2
              unfold maxLen at hcp2 hcq2
              have HP := Lib.hid (And.intro p1 hb1l)
              have HCE := Lib.hid (And.intro hcpe hcqe)
              have hct : ¬ cp = q := by omega
              clear o1 o2 p1 HAQ hN hcpe hcqe
              rcases h2A with ⟨hA2, rfl, hz⟩ | ⟨b2, hA2, hc2⟩
              · first
                | (exfalso; omega)
                | (rw [hA2] at e0
                   refine wp_held_mask (fun W => W.cell? ⟨lo, i * 4, none⟩ = some (.slice (some ⟨b1, 0, none⟩) L1 cp) ∧ W.cell? ⟨lo, t * 4, none⟩ = some (.slice none L2 cq)) [true, true, true, true, true, true, true, true, true, true, true, true, true, true, false, false, false, false] ?A1pan (by kernel_rfl) rfl (by kernel_rfl) (by repeat' (first | (with_reducible apply tame_then) | (with_reducible apply tame_block) | (with_reducible apply tame_scope) | exact tame_gives | exact tame_body (fun _ _ h => ⟨_, h.1⟩))) ⟨c0, e0⟩ ?headpan ?tailpan
                   case headpan =>
                     intro W5 ⟨s0, s1⟩
                     simp only [pick]
                     go_wp2
                     exact taken
                   case tailpan =>
                     simp only [pick, List.map_cons, List.map_nil, Bool.not_true, Bool.not_false]
                     refine tail_step ?_
                     refine wpList_apC rfl (.tmp 128) (.tmp 134) _ rfl 35 iE _ 2 16 Try.underlying33 hiE hzE0 hzE1 hzE2 rfl (by omega) w0.heap.size (A := none) (n := 0) (f := entF lb) rfl (fun _ => rfl) (fun ad e => by cases e) (ad := ⟨b1, 0 * 2, none⟩) (m := L1 - 0) (c := cp - 0) (g := fun j => entF la (0 * 2 + j)) rfl (fun j hj => by rw [addr_off]; exact HP.out.1 (0 * 2 + j) (by omega)) HP.out.2 (by omega) (fun j _ => ent_one la _) (entF N) HNW.out.2.1 HNW.out.2.2 L1 (by omega) (by unfold maxLen; omega) (by omega) HW.out.size ?_
                     skip
                     intro A2 c2 w3 ho hg ha
                     have ho' : Own w3 w0.heap.size 35 2 A2 N.length c2 (entF N) := by rw [HNW.out.1]; exact ho
                     have HL2 := Lib.hid (lg_row HW.out.drew ht ho' (grown_any hg _) (.inr ha))
                     have HL3 := Lib.hid (lg_head HL2.out ht)
                     have d0' : w3.cell? ⟨lo, i * 4, none⟩ = some (.slice (some ⟨b1, 0, none⟩) L1 cp) := (HL2.out.cell 4 rfl (j := i * 4) (by omega)).trans (by rw [lgF_0, HN.out.1, HN.out.2.2.2.1, hb1, HCE.out.1])
                     have d1' : w3.cell? ⟨lo, t * 4, none⟩ = some (.slice (none) L2 cq) := (HL2.out.cell 4 rfl (j := t * 4) (by omega)).trans (by rw [lgF_0, HN.out.2.1, HN.out.2.2.2.2, hA2, HCE.out.2])
                     have fz := HL2.out.frz 4 rfl (by omega) (t * 4)
                     rw [HNW.out.1] at HL3
                     clear ho ho' hg ha HL2 HW c0 e0
                     refine holds ⟨d0', d1'⟩ ?_
                     refine tail_step ?_
                     go_wp2
                     refine holds ⟨d0', d1'⟩ ?_
                     refine tail_step ?_
                     go_wp2
                     refine holds ⟨d0', d1'⟩ ?_
                     refine tail_last ?_
                     go_wp2
                     have HTL := Lib.hid (show ((lgS t N S).lg i).length = L1 by show (upd S.lg t N i).length = L1; rw [upd_ne _ _ hit, HN.out.1, HN.out.2.2.2.1])
                     have HTU := Lib.hid (show (lgS t N S).su i = S.su i ∧ (lgS t N S).su t = S.su t from ⟨rfl, rfl⟩)
                     have HTA := Lib.hid (show (lgA t A2 c2 a).hn i = n ∧ (lgA t A2 c2 a).nn i = n from ⟨HH.out.2.2.1, HH.out.2.2.2⟩)
                     have HTE := Lib.hid (tell_eq (i := i) (t := t) (S := S) (N := N) (L1 := L1) (by rw [HN.out.1, HN.out.2.1, HN.out.2.2.1]; exact HNN.out) (by rw [HN.out.1, HN.out.2.2.2.1]))
                     have HDT := Lib.hid (lgA_ok (i := t) (A' := A2) (c' := c2) (l := N) HD.out)
                     refine at_lay (F := fun W' => Code.wp _ _ _ _ W') (HL3.out.sim ⟨rfl, rfl, rfl, rfl⟩) ?_
                     intro W8 hW8
                     have HW := Lib.hid hW8
                     clear hW8 HL3
                     generalize lgS t N S = T at HTL HTU HTE HDT HW
                     generalize lgA t A2 c2 a = AT at HTA HDT HW
                     clear d0' d1' fz
                     obtain ⟨c0, -, c2, c3⟩ := lg_cells HW.out (i := i) hi
                     obtain ⟨bh, bn, hbh, hbn, -, -, hcell⟩ := lg_hn HW.out hi HTA.out.1 HTA.out.2
                     obtain ⟨x0, f0, -, -⟩ := hcell t ht
                     rw [HTL.out] at c0
                     rw [hbh, HTA.out.1] at c2
                     rw [hbn, HTA.out.2] at c3
                     have HBB := Lib.hid (And.intro hbh hbn)
                     clear hcell hbh hbn
                     refine wp_held_mask (fun W => W.cell? ⟨lo, i * 4, none⟩ = some (.slice (AT.A i) L1 (AT.c i)) ∧ W.cell? ⟨lo, i * 4 + 2, none⟩ = some (.slice (some ⟨bh, 0, none⟩) n (AT.hc i)) ∧ W.cell? ⟨lo, i * 4 + 3, none⟩ = some (.slice (some ⟨bn, 0, none⟩) n (AT.nc i))) [true, true, true, true, true, true, true, true, true, true, true, true, true, true, true, true, true, true, true, true, true, false, false, false] ?A1panr (by kernel_rfl) rfl (by kernel_rfl) (by repeat' (first | (with_reducible apply tame_then) | (with_reducible apply tame_block) | (with_reducible apply tame_scope) | exact tame_gives | exact tame_body (fun _ _ h => ⟨_, h.1⟩))) ⟨c0, c2, c3⟩ ?headpanr ?tailpanr
                     case headpanr =>
                       intro W5 ⟨s0, s1, s2⟩
                       simp only [pick]
                       go_wp2
                       exact taken
                     case tailpanr =>
                       simp only [pick, List.map_cons, List.map_nil, Bool.not_true, Bool.not_false]
                       have HA1 := Lib.hid (lg_haset (x := L1) HW.out.drew hi ht HBB.out.1 HTA.out.1)
                       refine tail_step ?_
                       go_wp2
                       refine at_lay (F := fun W' => Holds _ _ _ _ _ _ _ W') HA1.out ?_
                       intro W6 hW6
                       have HA := Lib.hid hW6
                       clear hW6 HA1 HW c0 c2 c3 x0 f0
                       obtain ⟨c0a, -, c2, c3⟩ := lg_cells HA.out (i := i) hi
                       obtain ⟨bh', bn', hbh, hbn, -, -, hcell⟩ := lg_hn HA.out hi HTA.out.1 HTA.out.2
                       obtain ⟨-, -, x1, f1⟩ := hcell t ht
                       have c0 : W6.cell? ⟨lo, i * 4, none⟩ = some (.slice (AT.A i) L1 (AT.c i)) := c0a.trans (by rw [← HTL.out]; rfl)
                       clear c0a
                       rw [HBB.out.1, HTA.out.1] at c2
                       rw [HBB.out.2, HTA.out.2] at c3
                       obtain rfl : bn = bn' := by
                         have := HBB.out.2.symm.trans hbn
                         injection this with this; injection this
                       clear hcell hbh hbn
                       refine holds ⟨c0, c2, c3⟩ ?_
                       refine tail_step ?_
                       go_wp2
                       refine holds ⟨c0, c2, c3⟩ ?_
                       refine tail_last ?_
                       have HA2 := Lib.hid (lg_nxset (x := L1) HA.out hi ht HBB.out.2 HTA.out.2)
                       go_wp2
                       refine at_lay (F := fun W' => Code.wp _ _ _ _ W') (HA2.out.sim ⟨rfl, rfl, rfl, rfl⟩) ?_
                       intro W7 hW7
                       have HF := Lib.hid hW7
                       clear hW7 HA2 HA c0 c2 c3 x1 f1
                       obtain ⟨c0a, c1a, -, -⟩ := lg_cells HF.out (i := i) hi
                       obtain ⟨-, e1a, -, -⟩ := lg_cells HF.out (i := t) ht
                       have c0 : W7.cell? ⟨lo, i * 4, none⟩ = some (.slice (AT.A i) L1 (AT.c i)) := c0a.trans (by rw [← HTL.out]; rfl)
                       have c1 : W7.cell? ⟨lo, i * 4 + 1, none⟩ = some (.int .i64 (T.su i : Nat)) := c1a
                       have e1 : W7.cell? ⟨lo, t * 4 + 1, none⟩ = some (.int .i64 (T.su t : Nat)) := e1a
                       clear c0a c1a e1a
                       have fz := lg_frz HF.out (by omega) (t * 4 + 1)
                       have HSS := Lib.hid (fun x => lg_suset (x := x) HF.out.drew ht)
                       rw [HTU.out.1] at c1
                       rw [HTU.out.2] at e1
                       have h9 := HR5.out
                       rw [HTE.out] at h9
                       have HR6 := Lib.hid h9
                       clear HR5 h9 HTE HTU
                       generalize S.su i = p1 at *
                       generalize S.su t = p2 at *
                       clear HBB HTL HH HNN HNW
                       rcases Nat.lt_or_ge L1 p1 with hm1 | hm1
                       · rcases Nat.lt_or_ge p2 L1 with hm2 | hm2
                         · refine wp_text 18 (by kernel_rfl) (by kernel_rfl) (by kernel_rfl) (by repeat' (first | (with_reducible apply tame_then) | (with_reducible apply tame_block) | (with_reducible apply tame_scope) | exact tame_gives | exact tame_body (fun _ _ h => ⟨_, h.1⟩))) ?_
                           simp only [List.take_succ_cons, List.take_zero, List.drop_succ_cons, List.drop_zero]
                           go_wp2
                           refine headed ?_
                           go_wp2
                           go_ret
                           have e9 := HR6.out
                           rw [show max p2 (min p1 L1) = L1 by omega] at e9
                           subst e9
                           exact ⟨rfl, AT, HDT.out, (HSS.out L1).sim ⟨rfl, rfl, rfl, rfl⟩⟩
                         · refine wp_text 18 (by kernel_rfl) (by kernel_rfl) (by kernel_rfl) (by repeat' (first | (with_reducible apply tame_then) | (with_reducible apply tame_block) | (with_reducible apply tame_scope) | exact tame_gives | exact tame_body (fun _ _ h => ⟨_, h.1⟩))) ?_
                           simp only [List.take_succ_cons, List.take_zero, List.drop_succ_cons, List.drop_zero]
                           go_wp2
                           refine headed ?_
                           go_wp2
                           go_ret
                           have e9 := HR6.out
                           rw [show max p2 (min p1 L1) = p2 by omega] at e9
                           subst e9
                           exact ⟨rfl, AT, HDT.out, (HSS.out p2).sim ⟨rfl, rfl, rfl, rfl⟩⟩
                       · rcases Nat.lt_or_ge p2 p1 with hm2 | hm2
                         · refine wp_text 18 (by kernel_rfl) (by kernel_rfl) (by kernel_rfl) (by repeat' (first | (with_reducible apply tame_then) | (with_reducible apply tame_block) | (with_reducible apply tame_scope) | exact tame_gives | exact tame_body (fun _ _ h => ⟨_, h.1⟩))) ?_
                           simp only [List.take_succ_cons, List.take_zero, List.drop_succ_cons, List.drop_zero]
                           go_wp2
                           refine headed ?_
                           go_wp2
                           go_ret
                           have e9 := HR6.out
                           rw [show max p2 (min p1 L1) = p1 by omega] at e9
                           subst e9
                           exact ⟨rfl, AT, HDT.out, (HSS.out p1).sim ⟨rfl, rfl, rfl, rfl⟩⟩
                         · refine wp_text 18 (by kernel_rfl) (by kernel_rfl) (by kernel_rfl) (by repeat' (first | (with_reducible apply tame_then) | (with_reducible apply tame_block) | (with_reducible apply tame_scope) | exact tame_gives | exact tame_body (fun _ _ h => ⟨_, h.1⟩))) ?_
                           simp only [List.take_succ_cons, List.take_zero, List.drop_succ_cons, List.drop_zero]
                           go_wp2
                           refine headed ?_
                           go_wp2
                           go_ret
                           have e9 := HR6.out
                           rw [show max p2 (min p1 L1) = p2 by omega] at e9
                           subst e9
                           exact ⟨rfl, AT, HDT.out, (HSS.out p2).sim ⟨rfl, rfl, rfl, rfl⟩⟩
                     )
              · have HC2 := Lib.hid hc2
                rw [hA2] at e0
                clear hc2
                refine wp_held_mask (fun W => W.cell? ⟨lo, i * 4, none⟩ = some (.slice (some ⟨b1, 0, none⟩) L1 cp) ∧ W.cell? ⟨lo, t * 4, none⟩ = some (.slice (some ⟨b2, 0, none⟩) L2 cq)) [true, true, true, true, true, true, true, true, true, true, true, true, true, true, false, false, false, false] ?A1pas (by kernel_rfl) rfl (by kernel_rfl) (by repeat' (first | (with_reducible apply tame_then) | (with_reducible apply tame_block) | (with_reducible apply tame_scope) | exact tame_gives | exact tame_body (fun _ _ h => ⟨_, h.1⟩))) ⟨c0, e0⟩ ?headpas ?tailpas
                case headpas =>
                  intro W5 ⟨s0, s1⟩
                  simp only [pick]
                  go_wp2
                  exact taken
                case tailpas =>
                  simp only [pick, List.map_cons, List.map_nil, Bool.not_true, Bool.not_false]
                  refine tail_step ?_
                  refine wpList_apC rfl (.tmp 128) (.tmp 134) _ rfl 35 iE _ 2 16 Try.underlying33 hiE hzE0 hzE1 hzE2 rfl (by omega) w0.heap.size (A := some ⟨b2, 0, none⟩) (n := q) (f := entF lb) rfl (fun h => by cases h) (ap_some HC2.out) (ad := ⟨b1, q * 2, none⟩) (m := L1 - q) (c := cp - q) (g := fun j => entF la (q * 2 + j)) rfl (fun j hj => by rw [addr_off]; exact HP.out.1 (q * 2 + j) (by omega)) HP.out.2 (by omega) (fun j _ => ent_one la _) (entF N) HNW.out.2.1 HNW.out.2.2 L1 (by omega) (by unfold maxLen; omega) (by omega) HW.out.size ?_
                  skip
                  intro A2 c2 w3 ho hg ha
                  have ho' : Own w3 w0.heap.size 35 2 A2 N.length c2 (entF N) := by rw [HNW.out.1]; exact ho
                  have HL2 := Lib.hid (lg_row HW.out.drew ht ho' (grown_any hg _) (.inr ha))
                  have HL3 := Lib.hid (lg_head HL2.out ht)
                  have d0' : w3.cell? ⟨lo, i * 4, none⟩ = some (.slice (some ⟨b1, 0, none⟩) L1 cp) := (HL2.out.cell 4 rfl (j := i * 4) (by omega)).trans (by rw [lgF_0, HN.out.1, HN.out.2.2.2.1, hb1, HCE.out.1])
                  have d1' : w3.cell? ⟨lo, t * 4, none⟩ = some (.slice (some ⟨b2, 0, none⟩) L2 cq) := (HL2.out.cell 4 rfl (j := t * 4) (by omega)).trans (by rw [lgF_0, HN.out.2.1, HN.out.2.2.2.2, hA2, HCE.out.2])
                  have fz := HL2.out.frz 4 rfl (by omega) (t * 4)
                  rw [HNW.out.1] at HL3
                  clear ho ho' hg ha HL2 HW c0 e0
                  refine holds ⟨d0', d1'⟩ ?_
                  refine tail_step ?_
                  go_wp2
                  refine holds ⟨d0', d1'⟩ ?_
                  refine tail_step ?_
                  go_wp2
                  refine holds ⟨d0', d1'⟩ ?_
                  refine tail_last ?_
                  go_wp2
                  have HTL := Lib.hid (show ((lgS t N S).lg i).length = L1 by show (upd S.lg t N i).length = L1; rw [upd_ne _ _ hit, HN.out.1, HN.out.2.2.2.1])
                  have HTU := Lib.hid (show (lgS t N S).su i = S.su i ∧ (lgS t N S).su t = S.su t from ⟨rfl, rfl⟩)
                  have HTA := Lib.hid (show (lgA t A2 c2 a).hn i = n ∧ (lgA t A2 c2 a).nn i = n from ⟨HH.out.2.2.1, HH.out.2.2.2⟩)
                  have HTE := Lib.hid (tell_eq (i := i) (t := t) (S := S) (N := N) (L1 := L1) (by rw [HN.out.1, HN.out.2.1, HN.out.2.2.1]; exact HNN.out) (by rw [HN.out.1, HN.out.2.2.2.1]))
                  have HDT := Lib.hid (lgA_ok (i := t) (A' := A2) (c' := c2) (l := N) HD.out)
                  refine at_lay (F := fun W' => Code.wp _ _ _ _ W') (HL3.out.sim ⟨rfl, rfl, rfl, rfl⟩) ?_
                  intro W8 hW8
                  have HW := Lib.hid hW8
                  clear hW8 HL3
                  generalize lgS t N S = T at HTL HTU HTE HDT HW
                  generalize lgA t A2 c2 a = AT at HTA HDT HW
                  clear d0' d1' fz
                  obtain ⟨c0, -, c2, c3⟩ := lg_cells HW.out (i := i) hi
                  obtain ⟨bh, bn, hbh, hbn, -, -, hcell⟩ := lg_hn HW.out hi HTA.out.1 HTA.out.2
                  obtain ⟨x0, f0, -, -⟩ := hcell t ht
                  rw [HTL.out] at c0
                  rw [hbh, HTA.out.1] at c2
                  rw [hbn, HTA.out.2] at c3
                  have HBB := Lib.hid (And.intro hbh hbn)
                  clear hcell hbh hbn
                  refine wp_held_mask (fun W => W.cell? ⟨lo, i * 4, none⟩ = some (.slice (AT.A i) L1 (AT.c i)) ∧ W.cell? ⟨lo, i * 4 + 2, none⟩ = some (.slice (some ⟨bh, 0, none⟩) n (AT.hc i)) ∧ W.cell? ⟨lo, i * 4 + 3, none⟩ = some (.slice (some ⟨bn, 0, none⟩) n (AT.nc i))) [true, true, true, true, true, true, true, true, true, true, true, true, true, true, true, true, true, true, true, true, true, false, false, false] ?A1pasr (by kernel_rfl) rfl (by kernel_rfl) (by repeat' (first | (with_reducible apply tame_then) | (with_reducible apply tame_block) | (with_reducible apply tame_scope) | exact tame_gives | exact tame_body (fun _ _ h => ⟨_, h.1⟩))) ⟨c0, c2, c3⟩ ?headpasr ?tailpasr
                  case headpasr =>
                    intro W5 ⟨s0, s1, s2⟩
                    simp only [pick]
                    go_wp2
                    exact taken
                  case tailpasr =>
                    simp only [pick, List.map_cons, List.map_nil, Bool.not_true, Bool.not_false]
                    have HA1 := Lib.hid (lg_haset (x := L1) HW.out.drew hi ht HBB.out.1 HTA.out.1)
                    refine tail_step ?_
                    go_wp2
                    refine at_lay (F := fun W' => Holds _ _ _ _ _ _ _ W') HA1.out ?_
                    intro W6 hW6
                    have HA := Lib.hid hW6
                    clear hW6 HA1 HW c0 c2 c3 x0 f0
                    obtain ⟨c0a, -, c2, c3⟩ := lg_cells HA.out (i := i) hi
                    obtain ⟨bh', bn', hbh, hbn, -, -, hcell⟩ := lg_hn HA.out hi HTA.out.1 HTA.out.2
                    obtain ⟨-, -, x1, f1⟩ := hcell t ht
                    have c0 : W6.cell? ⟨lo, i * 4, none⟩ = some (.slice (AT.A i) L1 (AT.c i)) := c0a.trans (by rw [← HTL.out]; rfl)
                    clear c0a
                    rw [HBB.out.1, HTA.out.1] at c2
                    rw [HBB.out.2, HTA.out.2] at c3
                    obtain rfl : bn = bn' := by
                      have := HBB.out.2.symm.trans hbn
                      injection this with this; injection this
                    clear hcell hbh hbn
                    refine holds ⟨c0, c2, c3⟩ ?_
                    refine tail_step ?_
                    go_wp2
                    refine holds ⟨c0, c2, c3⟩ ?_
                    refine tail_last ?_
                    have HA2 := Lib.hid (lg_nxset (x := L1) HA.out hi ht HBB.out.2 HTA.out.2)
                    go_wp2
                    refine at_lay (F := fun W' => Code.wp _ _ _ _ W') (HA2.out.sim ⟨rfl, rfl, rfl, rfl⟩) ?_
                    intro W7 hW7
                    have HF := Lib.hid hW7
                    clear hW7 HA2 HA c0 c2 c3 x1 f1
                    obtain ⟨c0a, c1a, -, -⟩ := lg_cells HF.out (i := i) hi
                    obtain ⟨-, e1a, -, -⟩ := lg_cells HF.out (i := t) ht
                    have c0 : W7.cell? ⟨lo, i * 4, none⟩ = some (.slice (AT.A i) L1 (AT.c i)) := c0a.trans (by rw [← HTL.out]; rfl)
                    have c1 : W7.cell? ⟨lo, i * 4 + 1, none⟩ = some (.int .i64 (T.su i : Nat)) := c1a
                    have e1 : W7.cell? ⟨lo, t * 4 + 1, none⟩ = some (.int .i64 (T.su t : Nat)) := e1a
                    clear c0a c1a e1a
                    have fz := lg_frz HF.out (by omega) (t * 4 + 1)
                    have HSS := Lib.hid (fun x => lg_suset (x := x) HF.out.drew ht)
                    rw [HTU.out.1] at c1
                    rw [HTU.out.2] at e1
                    have h9 := HR5.out
                    rw [HTE.out] at h9
                    have HR6 := Lib.hid h9
                    clear HR5 h9 HTE HTU
                    generalize S.su i = p1 at *
                    generalize S.su t = p2 at *
                    clear HBB HTL HH HNN HNW
                    rcases Nat.lt_or_ge L1 p1 with hm1 | hm1
                    · rcases Nat.lt_or_ge p2 L1 with hm2 | hm2
                      · refine wp_text 18 (by kernel_rfl) (by kernel_rfl) (by kernel_rfl) (by repeat' (first | (with_reducible apply tame_then) | (with_reducible apply tame_block) | (with_reducible apply tame_scope) | exact tame_gives | exact tame_body (fun _ _ h => ⟨_, h.1⟩))) ?_
                        simp only [List.take_succ_cons, List.take_zero, List.drop_succ_cons, List.drop_zero]
                        go_wp2
                        refine headed ?_
                        go_wp2
                        go_ret
                        have e9 := HR6.out
                        rw [show max p2 (min p1 L1) = L1 by omega] at e9
                        subst e9
                        exact ⟨rfl, AT, HDT.out, (HSS.out L1).sim ⟨rfl, rfl, rfl, rfl⟩⟩
                      · refine wp_text 18 (by kernel_rfl) (by kernel_rfl) (by kernel_rfl) (by repeat' (first | (with_reducible apply tame_then) | (with_reducible apply tame_block) | (with_reducible apply tame_scope) | exact tame_gives | exact tame_body (fun _ _ h => ⟨_, h.1⟩))) ?_
                        simp only [List.take_succ_cons, List.take_zero, List.drop_succ_cons, List.drop_zero]
                        go_wp2
                        refine headed ?_
                        go_wp2
                        go_ret
                        have e9 := HR6.out
                        rw [show max p2 (min p1 L1) = p2 by omega] at e9
                        subst e9
                        exact ⟨rfl, AT, HDT.out, (HSS.out p2).sim ⟨rfl, rfl, rfl, rfl⟩⟩
                    · rcases Nat.lt_or_ge p2 p1 with hm2 | hm2
                      · refine wp_text 18 (by kernel_rfl) (by kernel_rfl) (by kernel_rfl) (by repeat' (first | (with_reducible apply tame_then) | (with_reducible apply tame_block) | (with_reducible apply tame_scope) | exact tame_gives | exact tame_body (fun _ _ h => ⟨_, h.1⟩))) ?_
                        simp only [List.take_succ_cons, List.take_zero, List.drop_succ_cons, List.drop_zero]
                        go_wp2
                        refine headed ?_
                        go_wp2
                        go_ret
                        have e9 := HR6.out
                        rw [show max p2 (min p1 L1) = p1 by omega] at e9
                        subst e9
                        exact ⟨rfl, AT, HDT.out, (HSS.out p1).sim ⟨rfl, rfl, rfl, rfl⟩⟩
                      · refine wp_text 18 (by kernel_rfl) (by kernel_rfl) (by kernel_rfl) (by repeat' (first | (with_reducible apply tame_then) | (with_reducible apply tame_block) | (with_reducible apply tame_scope) | exact tame_gives | exact tame_body (fun _ _ h => ⟨_, h.1⟩))) ?_
                        simp only [List.take_succ_cons, List.take_zero, List.drop_succ_cons, List.drop_zero]
                        go_wp2
                        refine headed ?_
                        go_wp2
                        go_ret
                        have e9 := HR6.out
                        rw [show max p2 (min p1 L1) = p2 by omega] at e9
                        subst e9
                        exact ⟨rfl, AT, HDT.out, (HSS.out p2).sim ⟨rfl, rfl, rfl, rfl⟩⟩
            · cases f2
              · have HEX := Lib.hid (alike_stop (a := la) (b := lb) (f := L1 - q) (k := q) (.inr (.inr (fun h => by
                  have h2 := hf2
                  rw [(HE.out.1 h).2, beq_self_eq_true] at h2; cases h2))))
                go_wp2
                refine wp_text_all (by kernel_rfl) (by kernel_rfl) (by kernel_rfl) (by repeat' (first | (with_reducible apply tame_then) | (with_reducible apply tame_block) | (with_reducible apply tame_scope) | exact tame_gives | exact tame_body (fun _ _ h => ⟨_, h.1⟩))) ?_
                go_wp2
                refine headed ?_
                go_wp2
                have HAQ : Hid (alike la lb (L1 - (0)) (0) = q) := Lib.hid (HAL.out.symm.trans HEX.out)
                refine at_lay (F := fun W' => Code.wp _ _ _ _ W') (HQ.out.sim ⟨rfl, rfl, rfl, rfl⟩) ?_
                intro W hW
                have HW := Lib.hid hW
                clear hW HQ HAL HEX c0 e0
                obtain ⟨o1, -, -⟩ := lg_own HW.out hi
                obtain ⟨o2, -, -⟩ := lg_own HW.out ht
                obtain ⟨c0, -, -, -⟩ := lg_cells HW.out (i := i) hi
                obtain ⟨e0, -, -, -⟩ := lg_cells HW.out (i := t) ht
                rw [HN.out.1, HN.out.2.2.2.1] at o1 c0
                rw [HN.out.2.1, HN.out.2.2.2.2] at o2 e0
                obtain ⟨b1, hb1, -, hb1l, p1, -⟩ := o1.pos (by omega)
                obtain ⟨hcp1, hcp2⟩ := o1.le
                obtain ⟨hcq1, hcq2⟩ := o2.le
                rw [hb1] at c0
                have h2A : (a.A t = none ∧ q = 0 ∧ L2 = 0) ∨ ∃ b2, a.A t = some ⟨b2, 0, none⟩ ∧ ∀ j, j < q * 2 → W.cell? ⟨b2, j, none⟩ = some (entF lb j) := by
                  rcases o2 with ⟨x1, x2, -⟩ | ⟨b2, cur, x1, -, x3, -, -, -, x7⟩
                  · exact .inl ⟨x1, by omega, x2⟩
                  · refine .inr ⟨b2, x1, fun j hj => ?_⟩
                    rw [cell_of_row _ _ _ _ _ _ x3]
                    exact x7 j (by omega)
                have HNW := Lib.hid (send_new (la := la) (lb := lb) (k := 0) (q := q) (by rw [HN.out.2.2.2.1]; exact HAQ.out) (by rw [HN.out.2.2.2.1]; exact hlt1) (by rw [HN.out.2.2.2.2]; exact hq2))
                obtain ⟨N, hN⟩ : ∃ N, sendLog la lb (0) = N := ⟨_, rfl⟩
                rw [hN, HN.out.2.2.2.1] at HNW
                have HNN := Lib.hid hN
                generalize hcpe : a.c i = cp at c0 hcp1 hcp2
                generalize hcqe : a.c t = cq at e0 hcq1 hcq2
                unfold maxLen at hcp2 hcq2
                have HP := Lib.hid (And.intro p1 hb1l)
                have HCE := Lib.hid (And.intro hcpe hcqe)
                have hct : ¬ cp = q := by omega
                clear o1 o2 p1 HAQ hN hcpe hcqe
                rcases h2A with ⟨hA2, rfl, hz⟩ | ⟨b2, hA2, hc2⟩
                · first
                  | (exfalso; omega)
                  | (rw [hA2] at e0
                     refine wp_held_mask (fun W => W.cell? ⟨lo, i * 4, none⟩ = some (.slice (some ⟨b1, 0, none⟩) L1 cp) ∧ W.cell? ⟨lo, t * 4, none⟩ = some (.slice none L2 cq)) [true, true, true, true, true, true, true, true, true, true, true, true, true, true, false, false, false, false] ?A1pbn (by kernel_rfl) rfl (by kernel_rfl) (by repeat' (first | (with_reducible apply tame_then) | (with_reducible apply tame_block) | (with_reducible apply tame_scope) | exact tame_gives | exact tame_body (fun _ _ h => ⟨_, h.1⟩))) ⟨c0, e0⟩ ?headpbn ?tailpbn
                     case headpbn =>
                       intro W5 ⟨s0, s1⟩
                       simp only [pick]
                       go_wp2
                       exact taken
                     case tailpbn =>
                       simp only [pick, List.map_cons, List.map_nil, Bool.not_true, Bool.not_false]
                       refine tail_step ?_
                       refine wpList_apC rfl (.tmp 128) (.tmp 134) _ rfl 35 iE _ 2 16 Try.underlying33 hiE hzE0 hzE1 hzE2 rfl (by omega) w0.heap.size (A := none) (n := 0) (f := entF lb) rfl (fun _ => rfl) (fun ad e => by cases e) (ad := ⟨b1, 0 * 2, none⟩) (m := L1 - 0) (c := cp - 0) (g := fun j => entF la (0 * 2 + j)) rfl (fun j hj => by rw [addr_off]; exact HP.out.1 (0 * 2 + j) (by omega)) HP.out.2 (by omega) (fun j _ => ent_one la _) (entF N) HNW.out.2.1 HNW.out.2.2 L1 (by omega) (by unfold maxLen; omega) (by omega) HW.out.size ?_
                       skip
                       intro A2 c2 w3 ho hg ha
                       have ho' : Own w3 w0.heap.size 35 2 A2 N.length c2 (entF N) := by rw [HNW.out.1]; exact ho
                       have HL2 := Lib.hid (lg_row HW.out.drew ht ho' (grown_any hg _) (.inr ha))
                       have HL3 := Lib.hid (lg_head HL2.out ht)
                       have d0' : w3.cell? ⟨lo, i * 4, none⟩ = some (.slice (some ⟨b1, 0, none⟩) L1 cp) := (HL2.out.cell 4 rfl (j := i * 4) (by omega)).trans (by rw [lgF_0, HN.out.1, HN.out.2.2.2.1, hb1, HCE.out.1])
                       have d1' : w3.cell? ⟨lo, t * 4, none⟩ = some (.slice (none) L2 cq) := (HL2.out.cell 4 rfl (j := t * 4) (by omega)).trans (by rw [lgF_0, HN.out.2.1, HN.out.2.2.2.2, hA2, HCE.out.2])
                       have fz := HL2.out.frz 4 rfl (by omega) (t * 4)
                       rw [HNW.out.1] at HL3
                       clear ho ho' hg ha HL2 HW c0 e0
                       refine holds ⟨d0', d1'⟩ ?_
                       refine tail_step ?_
                       go_wp2
                       refine holds ⟨d0', d1'⟩ ?_
                       refine tail_step ?_
                       go_wp2
                       refine holds ⟨d0', d1'⟩ ?_
                       refine tail_last ?_
                       go_wp2
                       have HTL := Lib.hid (show ((lgS t N S).lg i).length = L1 by show (upd S.lg t N i).length = L1; rw [upd_ne _ _ hit, HN.out.1, HN.out.2.2.2.1])
                       have HTU := Lib.hid (show (lgS t N S).su i = S.su i ∧ (lgS t N S).su t = S.su t from ⟨rfl, rfl⟩)
                       have HTA := Lib.hid (show (lgA t A2 c2 a).hn i = n ∧ (lgA t A2 c2 a).nn i = n from ⟨HH.out.2.2.1, HH.out.2.2.2⟩)
                       have HTE := Lib.hid (tell_eq (i := i) (t := t) (S := S) (N := N) (L1 := L1) (by rw [HN.out.1, HN.out.2.1, HN.out.2.2.1]; exact HNN.out) (by rw [HN.out.1, HN.out.2.2.2.1]))
                       have HDT := Lib.hid (lgA_ok (i := t) (A' := A2) (c' := c2) (l := N) HD.out)
                       refine at_lay (F := fun W' => Code.wp _ _ _ _ W') (HL3.out.sim ⟨rfl, rfl, rfl, rfl⟩) ?_
                       intro W8 hW8
                       have HW := Lib.hid hW8
                       clear hW8 HL3
                       generalize lgS t N S = T at HTL HTU HTE HDT HW
                       generalize lgA t A2 c2 a = AT at HTA HDT HW
                       clear d0' d1' fz
                       obtain ⟨c0, -, c2, c3⟩ := lg_cells HW.out (i := i) hi
                       obtain ⟨bh, bn, hbh, hbn, -, -, hcell⟩ := lg_hn HW.out hi HTA.out.1 HTA.out.2
                       obtain ⟨x0, f0, -, -⟩ := hcell t ht
                       rw [HTL.out] at c0
                       rw [hbh, HTA.out.1] at c2
                       rw [hbn, HTA.out.2] at c3
                       have HBB := Lib.hid (And.intro hbh hbn)
                       clear hcell hbh hbn
                       refine wp_held_mask (fun W => W.cell? ⟨lo, i * 4, none⟩ = some (.slice (AT.A i) L1 (AT.c i)) ∧ W.cell? ⟨lo, i * 4 + 2, none⟩ = some (.slice (some ⟨bh, 0, none⟩) n (AT.hc i)) ∧ W.cell? ⟨lo, i * 4 + 3, none⟩ = some (.slice (some ⟨bn, 0, none⟩) n (AT.nc i))) [true, true, true, true, true, true, true, true, true, true, true, true, true, true, true, true, true, true, true, true, true, false, false, false] ?A1pbnr (by kernel_rfl) rfl (by kernel_rfl) (by repeat' (first | (with_reducible apply tame_then) | (with_reducible apply tame_block) | (with_reducible apply tame_scope) | exact tame_gives | exact tame_body (fun _ _ h => ⟨_, h.1⟩))) ⟨c0, c2, c3⟩ ?headpbnr ?tailpbnr
                       case headpbnr =>
                         intro W5 ⟨s0, s1, s2⟩
                         simp only [pick]
                         go_wp2
                         exact taken
                       case tailpbnr =>
                         simp only [pick, List.map_cons, List.map_nil, Bool.not_true, Bool.not_false]
                         have HA1 := Lib.hid (lg_haset (x := L1) HW.out.drew hi ht HBB.out.1 HTA.out.1)
                         refine tail_step ?_
                         go_wp2
                         refine at_lay (F := fun W' => Holds _ _ _ _ _ _ _ W') HA1.out ?_
                         intro W6 hW6
                         have HA := Lib.hid hW6
                         clear hW6 HA1 HW c0 c2 c3 x0 f0
                         obtain ⟨c0a, -, c2, c3⟩ := lg_cells HA.out (i := i) hi
                         obtain ⟨bh', bn', hbh, hbn, -, -, hcell⟩ := lg_hn HA.out hi HTA.out.1 HTA.out.2
                         obtain ⟨-, -, x1, f1⟩ := hcell t ht
                         have c0 : W6.cell? ⟨lo, i * 4, none⟩ = some (.slice (AT.A i) L1 (AT.c i)) := c0a.trans (by rw [← HTL.out]; rfl)
                         clear c0a
                         rw [HBB.out.1, HTA.out.1] at c2
                         rw [HBB.out.2, HTA.out.2] at c3
                         obtain rfl : bn = bn' := by
                           have := HBB.out.2.symm.trans hbn
                           injection this with this; injection this
                         clear hcell hbh hbn
                         refine holds ⟨c0, c2, c3⟩ ?_
                         refine tail_step ?_
                         go_wp2
                         refine holds ⟨c0, c2, c3⟩ ?_
                         refine tail_last ?_
                         have HA2 := Lib.hid (lg_nxset (x := L1) HA.out hi ht HBB.out.2 HTA.out.2)
                         go_wp2
                         refine at_lay (F := fun W' => Code.wp _ _ _ _ W') (HA2.out.sim ⟨rfl, rfl, rfl, rfl⟩) ?_
                         intro W7 hW7
                         have HF := Lib.hid hW7
                         clear hW7 HA2 HA c0 c2 c3 x1 f1
                         obtain ⟨c0a, c1a, -, -⟩ := lg_cells HF.out (i := i) hi
                         obtain ⟨-, e1a, -, -⟩ := lg_cells HF.out (i := t) ht
                         have c0 : W7.cell? ⟨lo, i * 4, none⟩ = some (.slice (AT.A i) L1 (AT.c i)) := c0a.trans (by rw [← HTL.out]; rfl)
                         have c1 : W7.cell? ⟨lo, i * 4 + 1, none⟩ = some (.int .i64 (T.su i : Nat)) := c1a
                         have e1 : W7.cell? ⟨lo, t * 4 + 1, none⟩ = some (.int .i64 (T.su t : Nat)) := e1a
                         clear c0a c1a e1a
                         have fz := lg_frz HF.out (by omega) (t * 4 + 1)
                         have HSS := Lib.hid (fun x => lg_suset (x := x) HF.out.drew ht)
                         rw [HTU.out.1] at c1
                         rw [HTU.out.2] at e1
                         have h9 := HR5.out
                         rw [HTE.out] at h9
                         have HR6 := Lib.hid h9
                         clear HR5 h9 HTE HTU
                         generalize S.su i = p1 at *
                         generalize S.su t = p2 at *
                         clear HBB HTL HH HNN HNW
                         rcases Nat.lt_or_ge L1 p1 with hm1 | hm1
                         · rcases Nat.lt_or_ge p2 L1 with hm2 | hm2
                           · refine wp_text 18 (by kernel_rfl) (by kernel_rfl) (by kernel_rfl) (by repeat' (first | (with_reducible apply tame_then) | (with_reducible apply tame_block) | (with_reducible apply tame_scope) | exact tame_gives | exact tame_body (fun _ _ h => ⟨_, h.1⟩))) ?_
                             simp only [List.take_succ_cons, List.take_zero, List.drop_succ_cons, List.drop_zero]
                             go_wp2
                             refine headed ?_
                             go_wp2
                             go_ret
                             have e9 := HR6.out
                             rw [show max p2 (min p1 L1) = L1 by omega] at e9
                             subst e9
                             exact ⟨rfl, AT, HDT.out, (HSS.out L1).sim ⟨rfl, rfl, rfl, rfl⟩⟩
                           · refine wp_text 18 (by kernel_rfl) (by kernel_rfl) (by kernel_rfl) (by repeat' (first | (with_reducible apply tame_then) | (with_reducible apply tame_block) | (with_reducible apply tame_scope) | exact tame_gives | exact tame_body (fun _ _ h => ⟨_, h.1⟩))) ?_
                             simp only [List.take_succ_cons, List.take_zero, List.drop_succ_cons, List.drop_zero]
                             go_wp2
                             refine headed ?_
                             go_wp2
                             go_ret
                             have e9 := HR6.out
                             rw [show max p2 (min p1 L1) = p2 by omega] at e9
                             subst e9
                             exact ⟨rfl, AT, HDT.out, (HSS.out p2).sim ⟨rfl, rfl, rfl, rfl⟩⟩
                         · rcases Nat.lt_or_ge p2 p1 with hm2 | hm2
                           · refine wp_text 18 (by kernel_rfl) (by kernel_rfl) (by kernel_rfl) (by repeat' (first | (with_reducible apply tame_then) | (with_reducible apply tame_block) | (with_reducible apply tame_scope) | exact tame_gives | exact tame_body (fun _ _ h => ⟨_, h.1⟩))) ?_
                             simp only [List.take_succ_cons, List.take_zero, List.drop_succ_cons, List.drop_zero]
                             go_wp2
                             refine headed ?_
                             go_wp2
                             go_ret
                             have e9 := HR6.out
                             rw [show max p2 (min p1 L1) = p1 by omega] at e9
                             subst e9
                             exact ⟨rfl, AT, HDT.out, (HSS.out p1).sim ⟨rfl, rfl, rfl, rfl⟩⟩
                           · refine wp_text 18 (by kernel_rfl) (by kernel_rfl) (by kernel_rfl) (by repeat' (first | (with_reducible apply tame_then) | (with_reducible apply tame_block) | (with_reducible apply tame_scope) | exact tame_gives | exact tame_body (fun _ _ h => ⟨_, h.1⟩))) ?_
                             simp only [List.take_succ_cons, List.take_zero, List.drop_succ_cons, List.drop_zero]
                             go_wp2
                             refine headed ?_
                             go_wp2
                             go_ret
                             have e9 := HR6.out
                             rw [show max p2 (min p1 L1) = p2 by omega] at e9
                             subst e9
                             exact ⟨rfl, AT, HDT.out, (HSS.out p2).sim ⟨rfl, rfl, rfl, rfl⟩⟩
                       )
                · have HC2 := Lib.hid hc2
                  rw [hA2] at e0
                  clear hc2
                  refine wp_held_mask (fun W => W.cell? ⟨lo, i * 4, none⟩ = some (.slice (some ⟨b1, 0, none⟩) L1 cp) ∧ W.cell? ⟨lo, t * 4, none⟩ = some (.slice (some ⟨b2, 0, none⟩) L2 cq)) [true, true, true, true, true, true, true, true, true, true, true, true, true, true, false, false, false, false] ?A1pbs (by kernel_rfl) rfl (by kernel_rfl) (by repeat' (first | (with_reducible apply tame_then) | (with_reducible apply tame_block) | (with_reducible apply tame_scope) | exact tame_gives | exact tame_body (fun _ _ h => ⟨_, h.1⟩))) ⟨c0, e0⟩ ?headpbs ?tailpbs
                  case headpbs =>
                    intro W5 ⟨s0, s1⟩
                    simp only [pick]
                    go_wp2
                    exact taken
                  case tailpbs =>
                    simp only [pick, List.map_cons, List.map_nil, Bool.not_true, Bool.not_false]
                    refine tail_step ?_
                    refine wpList_apC rfl (.tmp 128) (.tmp 134) _ rfl 35 iE _ 2 16 Try.underlying33 hiE hzE0 hzE1 hzE2 rfl (by omega) w0.heap.size (A := some ⟨b2, 0, none⟩) (n := q) (f := entF lb) rfl (fun h => by cases h) (ap_some HC2.out) (ad := ⟨b1, q * 2, none⟩) (m := L1 - q) (c := cp - q) (g := fun j => entF la (q * 2 + j)) rfl (fun j hj => by rw [addr_off]; exact HP.out.1 (q * 2 + j) (by omega)) HP.out.2 (by omega) (fun j _ => ent_one la _) (entF N) HNW.out.2.1 HNW.out.2.2 L1 (by omega) (by unfold maxLen; omega) (by omega) HW.out.size ?_
                    skip
                    intro A2 c2 w3 ho hg ha
                    have ho' : Own w3 w0.heap.size 35 2 A2 N.length c2 (entF N) := by rw [HNW.out.1]; exact ho
                    have HL2 := Lib.hid (lg_row HW.out.drew ht ho' (grown_any hg _) (.inr ha))
                    have HL3 := Lib.hid (lg_head HL2.out ht)
                    have d0' : w3.cell? ⟨lo, i * 4, none⟩ = some (.slice (some ⟨b1, 0, none⟩) L1 cp) := (HL2.out.cell 4 rfl (j := i * 4) (by omega)).trans (by rw [lgF_0, HN.out.1, HN.out.2.2.2.1, hb1, HCE.out.1])
                    have d1' : w3.cell? ⟨lo, t * 4, none⟩ = some (.slice (some ⟨b2, 0, none⟩) L2 cq) := (HL2.out.cell 4 rfl (j := t * 4) (by omega)).trans (by rw [lgF_0, HN.out.2.1, HN.out.2.2.2.2, hA2, HCE.out.2])
                    have fz := HL2.out.frz 4 rfl (by omega) (t * 4)
                    rw [HNW.out.1] at HL3
                    clear ho ho' hg ha HL2 HW c0 e0
                    refine holds ⟨d0', d1'⟩ ?_
                    refine tail_step ?_
                    go_wp2
                    refine holds ⟨d0', d1'⟩ ?_
                    refine tail_step ?_
                    go_wp2
                    refine holds ⟨d0', d1'⟩ ?_
                    refine tail_last ?_
                    go_wp2
                    have HTL := Lib.hid (show ((lgS t N S).lg i).length = L1 by show (upd S.lg t N i).length = L1; rw [upd_ne _ _ hit, HN.out.1, HN.out.2.2.2.1])
                    have HTU := Lib.hid (show (lgS t N S).su i = S.su i ∧ (lgS t N S).su t = S.su t from ⟨rfl, rfl⟩)
                    have HTA := Lib.hid (show (lgA t A2 c2 a).hn i = n ∧ (lgA t A2 c2 a).nn i = n from ⟨HH.out.2.2.1, HH.out.2.2.2⟩)
                    have HTE := Lib.hid (tell_eq (i := i) (t := t) (S := S) (N := N) (L1 := L1) (by rw [HN.out.1, HN.out.2.1, HN.out.2.2.1]; exact HNN.out) (by rw [HN.out.1, HN.out.2.2.2.1]))
                    have HDT := Lib.hid (lgA_ok (i := t) (A' := A2) (c' := c2) (l := N) HD.out)
                    refine at_lay (F := fun W' => Code.wp _ _ _ _ W') (HL3.out.sim ⟨rfl, rfl, rfl, rfl⟩) ?_
                    intro W8 hW8
                    have HW := Lib.hid hW8
                    clear hW8 HL3
                    generalize lgS t N S = T at HTL HTU HTE HDT HW
                    generalize lgA t A2 c2 a = AT at HTA HDT HW
                    clear d0' d1' fz
                    obtain ⟨c0, -, c2, c3⟩ := lg_cells HW.out (i := i) hi
                    obtain ⟨bh, bn, hbh, hbn, -, -, hcell⟩ := lg_hn HW.out hi HTA.out.1 HTA.out.2
                    obtain ⟨x0, f0, -, -⟩ := hcell t ht
                    rw [HTL.out] at c0
                    rw [hbh, HTA.out.1] at c2
                    rw [hbn, HTA.out.2] at c3
                    have HBB := Lib.hid (And.intro hbh hbn)
                    clear hcell hbh hbn
                    refine wp_held_mask (fun W => W.cell? ⟨lo, i * 4, none⟩ = some (.slice (AT.A i) L1 (AT.c i)) ∧ W.cell? ⟨lo, i * 4 + 2, none⟩ = some (.slice (some ⟨bh, 0, none⟩) n (AT.hc i)) ∧ W.cell? ⟨lo, i * 4 + 3, none⟩ = some (.slice (some ⟨bn, 0, none⟩) n (AT.nc i))) [true, true, true, true, true, true, true, true, true, true, true, true, true, true, true, true, true, true, true, true, true, false, false, false] ?A1pbsr (by kernel_rfl) rfl (by kernel_rfl) (by repeat' (first | (with_reducible apply tame_then) | (with_reducible apply tame_block) | (with_reducible apply tame_scope) | exact tame_gives | exact tame_body (fun _ _ h => ⟨_, h.1⟩))) ⟨c0, c2, c3⟩ ?headpbsr ?tailpbsr
                    case headpbsr =>
                      intro W5 ⟨s0, s1, s2⟩
                      simp only [pick]
                      go_wp2
                      exact taken
                    case tailpbsr =>
                      simp only [pick, List.map_cons, List.map_nil, Bool.not_true, Bool.not_false]
                      have HA1 := Lib.hid (lg_haset (x := L1) HW.out.drew hi ht HBB.out.1 HTA.out.1)
                      refine tail_step ?_
                      go_wp2
                      refine at_lay (F := fun W' => Holds _ _ _ _ _ _ _ W') HA1.out ?_
                      intro W6 hW6
                      have HA := Lib.hid hW6
                      clear hW6 HA1 HW c0 c2 c3 x0 f0
                      obtain ⟨c0a, -, c2, c3⟩ := lg_cells HA.out (i := i) hi
                      obtain ⟨bh', bn', hbh, hbn, -, -, hcell⟩ := lg_hn HA.out hi HTA.out.1 HTA.out.2
                      obtain ⟨-, -, x1, f1⟩ := hcell t ht
                      have c0 : W6.cell? ⟨lo, i * 4, none⟩ = some (.slice (AT.A i) L1 (AT.c i)) := c0a.trans (by rw [← HTL.out]; rfl)
                      clear c0a
                      rw [HBB.out.1, HTA.out.1] at c2
                      rw [HBB.out.2, HTA.out.2] at c3
                      obtain rfl : bn = bn' := by
                        have := HBB.out.2.symm.trans hbn
                        injection this with this; injection this
                      clear hcell hbh hbn
                      refine holds ⟨c0, c2, c3⟩ ?_
                      refine tail_step ?_
                      go_wp2
                      refine holds ⟨c0, c2, c3⟩ ?_
                      refine tail_last ?_
                      have HA2 := Lib.hid (lg_nxset (x := L1) HA.out hi ht HBB.out.2 HTA.out.2)
                      go_wp2
                      refine at_lay (F := fun W' => Code.wp _ _ _ _ W') (HA2.out.sim ⟨rfl, rfl, rfl, rfl⟩) ?_
                      intro W7 hW7
                      have HF := Lib.hid hW7
                      clear hW7 HA2 HA c0 c2 c3 x1 f1
                      obtain ⟨c0a, c1a, -, -⟩ := lg_cells HF.out (i := i) hi
                      obtain ⟨-, e1a, -, -⟩ := lg_cells HF.out (i := t) ht
                      have c0 : W7.cell? ⟨lo, i * 4, none⟩ = some (.slice (AT.A i) L1 (AT.c i)) := c0a.trans (by rw [← HTL.out]; rfl)
                      have c1 : W7.cell? ⟨lo, i * 4 + 1, none⟩ = some (.int .i64 (T.su i : Nat)) := c1a
                      have e1 : W7.cell? ⟨lo, t * 4 + 1, none⟩ = some (.int .i64 (T.su t : Nat)) := e1a
                      clear c0a c1a e1a
                      have fz := lg_frz HF.out (by omega) (t * 4 + 1)
                      have HSS := Lib.hid (fun x => lg_suset (x := x) HF.out.drew ht)
                      rw [HTU.out.1] at c1
                      rw [HTU.out.2] at e1
                      have h9 := HR5.out
                      rw [HTE.out] at h9
                      have HR6 := Lib.hid h9
                      clear HR5 h9 HTE HTU
                      generalize S.su i = p1 at *
                      generalize S.su t = p2 at *
                      clear HBB HTL HH HNN HNW
                      rcases Nat.lt_or_ge L1 p1 with hm1 | hm1
                      · rcases Nat.lt_or_ge p2 L1 with hm2 | hm2
                        · refine wp_text 18 (by kernel_rfl) (by kernel_rfl) (by kernel_rfl) (by repeat' (first | (with_reducible apply tame_then) | (with_reducible apply tame_block) | (with_reducible apply tame_scope) | exact tame_gives | exact tame_body (fun _ _ h => ⟨_, h.1⟩))) ?_
                          simp only [List.take_succ_cons, List.take_zero, List.drop_succ_cons, List.drop_zero]
                          go_wp2
                          refine headed ?_
                          go_wp2
                          go_ret
                          have e9 := HR6.out
                          rw [show max p2 (min p1 L1) = L1 by omega] at e9
                          subst e9
                          exact ⟨rfl, AT, HDT.out, (HSS.out L1).sim ⟨rfl, rfl, rfl, rfl⟩⟩
                        · refine wp_text 18 (by kernel_rfl) (by kernel_rfl) (by kernel_rfl) (by repeat' (first | (with_reducible apply tame_then) | (with_reducible apply tame_block) | (with_reducible apply tame_scope) | exact tame_gives | exact tame_body (fun _ _ h => ⟨_, h.1⟩))) ?_
                          simp only [List.take_succ_cons, List.take_zero, List.drop_succ_cons, List.drop_zero]
                          go_wp2
                          refine headed ?_
                          go_wp2
                          go_ret
                          have e9 := HR6.out
                          rw [show max p2 (min p1 L1) = p2 by omega] at e9
                          subst e9
                          exact ⟨rfl, AT, HDT.out, (HSS.out p2).sim ⟨rfl, rfl, rfl, rfl⟩⟩
                      · rcases Nat.lt_or_ge p2 p1 with hm2 | hm2
                        · refine wp_text 18 (by kernel_rfl) (by kernel_rfl) (by kernel_rfl) (by repeat' (first | (with_reducible apply tame_then) | (with_reducible apply tame_block) | (with_reducible apply tame_scope) | exact tame_gives | exact tame_body (fun _ _ h => ⟨_, h.1⟩))) ?_
                          simp only [List.take_succ_cons, List.take_zero, List.drop_succ_cons, List.drop_zero]
                          go_wp2
                          refine headed ?_
                          go_wp2
                          go_ret
                          have e9 := HR6.out
                          rw [show max p2 (min p1 L1) = p1 by omega] at e9
                          subst e9
                          exact ⟨rfl, AT, HDT.out, (HSS.out p1).sim ⟨rfl, rfl, rfl, rfl⟩⟩
                        · refine wp_text 18 (by kernel_rfl) (by kernel_rfl) (by kernel_rfl) (by repeat' (first | (with_reducible apply tame_then) | (with_reducible apply tame_block) | (with_reducible apply tame_scope) | exact tame_gives | exact tame_body (fun _ _ h => ⟨_, h.1⟩))) ?_
                          simp only [List.take_succ_cons, List.take_zero, List.drop_succ_cons, List.drop_zero]
                          go_wp2
                          refine headed ?_
                          go_wp2
                          go_ret
                          have e9 := HR6.out
                          rw [show max p2 (min p1 L1) = p2 by omega] at e9
                          subst e9
                          exact ⟨rfl, AT, HDT.out, (HSS.out p2).sim ⟨rfl, rfl, rfl, rfl⟩⟩
              · have HGO := Lib.hid (alike_go (a := la) (b := lb) (L := L1) (k := q) HN.out.2.2.2.1 hlt1 (by rw [HN.out.2.2.2.2]; exact hlt2) (HE.out.2 ⟨by simpa using HF.out, by simpa using hf2⟩))
                go_wp2
                refine wp_text_all (by kernel_rfl) (by kernel_rfl) (by kernel_rfl) (by repeat' (first | (with_reducible apply tame_then) | (with_reducible apply tame_block) | (with_reducible apply tame_scope) | exact tame_gives | exact tame_body (fun _ _ h => ⟨_, h.1⟩))) ?_
                go_wp2
                refine headed ?_
                go_wp2
                go_roundw
                case rel => exact ⟨q + 1, by omega, by omega, by omega, by go_num, Lib.hid (HGO.out.symm.trans HAL.out), HQ.out.sim ⟨rfl, rfl, rfl, rfl⟩⟩
                case measure => simp [intOf]; omega
          · have HEX := Lib.hid (alike_stop (a := la) (b := lb) (f := L1 - q) (k := q) (.inr (.inl (by rw [HN.out.2.2.2.2]; exact hlt2))))
            go_wp2
            refine wp_text_all (by kernel_rfl) (by kernel_rfl) (by kernel_rfl) (by repeat' (first | (with_reducible apply tame_then) | (with_reducible apply tame_block) | (with_reducible apply tame_scope) | exact tame_gives | exact tame_body (fun _ _ h => ⟨_, h.1⟩))) ?_
            go_wp2
            refine headed ?_
            go_wp2
            have HAQ : Hid (alike la lb (L1 - (0)) (0) = q) := Lib.hid (HAL.out.symm.trans HEX.out)
            refine at_lay (F := fun W' => Code.wp _ _ _ _ W') (HQ.out.sim ⟨rfl, rfl, rfl, rfl⟩) ?_
            intro W hW
            have HW := Lib.hid hW
            clear hW HQ HAL HEX c0 e0
            obtain ⟨o1, -, -⟩ := lg_own HW.out hi
            obtain ⟨o2, -, -⟩ := lg_own HW.out ht
            obtain ⟨c0, -, -, -⟩ := lg_cells HW.out (i := i) hi
            obtain ⟨e0, -, -, -⟩ := lg_cells HW.out (i := t) ht
            rw [HN.out.1, HN.out.2.2.2.1] at o1 c0
            rw [HN.out.2.1, HN.out.2.2.2.2] at o2 e0
            obtain ⟨b1, hb1, -, hb1l, p1, -⟩ := o1.pos (by omega)
            obtain ⟨hcp1, hcp2⟩ := o1.le
            obtain ⟨hcq1, hcq2⟩ := o2.le
            rw [hb1] at c0
            have h2A : (a.A t = none ∧ q = 0 ∧ L2 = 0) ∨ ∃ b2, a.A t = some ⟨b2, 0, none⟩ ∧ ∀ j, j < q * 2 → W.cell? ⟨b2, j, none⟩ = some (entF lb j) := by
              rcases o2 with ⟨x1, x2, -⟩ | ⟨b2, cur, x1, -, x3, -, -, -, x7⟩
              · exact .inl ⟨x1, by omega, x2⟩
              · refine .inr ⟨b2, x1, fun j hj => ?_⟩
                rw [cell_of_row _ _ _ _ _ _ x3]
                exact x7 j (by omega)
            have HNW := Lib.hid (send_new (la := la) (lb := lb) (k := 0) (q := q) (by rw [HN.out.2.2.2.1]; exact HAQ.out) (by rw [HN.out.2.2.2.1]; exact hlt1) (by rw [HN.out.2.2.2.2]; exact hq2))
            obtain ⟨N, hN⟩ : ∃ N, sendLog la lb (0) = N := ⟨_, rfl⟩
            rw [hN, HN.out.2.2.2.1] at HNW
            have HNN := Lib.hid hN
            generalize hcpe : a.c i = cp at c0 hcp1 hcp2
            generalize hcqe : a.c t = cq at e0 hcq1 hcq2
            unfold maxLen at hcp2 hcq2
            have HP := Lib.hid (And.intro p1 hb1l)
            have HCE := Lib.hid (And.intro hcpe hcqe)
            have hct : ¬ cp = q := by omega
            clear o1 o2 p1 HAQ hN hcpe hcqe
            rcases h2A with ⟨hA2, rfl, hz⟩ | ⟨b2, hA2, hc2⟩
            · first
              | (exfalso; omega)
              | (rw [hA2] at e0
                 refine wp_held_mask (fun W => W.cell? ⟨lo, i * 4, none⟩ = some (.slice (some ⟨b1, 0, none⟩) L1 cp) ∧ W.cell? ⟨lo, t * 4, none⟩ = some (.slice none L2 cq)) [true, true, true, true, true, true, true, true, true, true, true, true, true, true, false, false, false, false] ?A1pcn (by kernel_rfl) rfl (by kernel_rfl) (by repeat' (first | (with_reducible apply tame_then) | (with_reducible apply tame_block) | (with_reducible apply tame_scope) | exact tame_gives | exact tame_body (fun _ _ h => ⟨_, h.1⟩))) ⟨c0, e0⟩ ?headpcn ?tailpcn
                 case headpcn =>
                   intro W5 ⟨s0, s1⟩
                   simp only [pick]
                   go_wp2
                   exact taken
                 case tailpcn =>
                   simp only [pick, List.map_cons, List.map_nil, Bool.not_true, Bool.not_false]
                   refine tail_step ?_
                   refine wpList_apC rfl (.tmp 128) (.tmp 134) _ rfl 35 iE _ 2 16 Try.underlying33 hiE hzE0 hzE1 hzE2 rfl (by omega) w0.heap.size (A := none) (n := 0) (f := entF lb) rfl (fun _ => rfl) (fun ad e => by cases e) (ad := ⟨b1, 0 * 2, none⟩) (m := L1 - 0) (c := cp - 0) (g := fun j => entF la (0 * 2 + j)) rfl (fun j hj => by rw [addr_off]; exact HP.out.1 (0 * 2 + j) (by omega)) HP.out.2 (by omega) (fun j _ => ent_one la _) (entF N) HNW.out.2.1 HNW.out.2.2 L1 (by omega) (by unfold maxLen; omega) (by omega) HW.out.size ?_
                   skip
                   intro A2 c2 w3 ho hg ha
                   have ho' : Own w3 w0.heap.size 35 2 A2 N.length c2 (entF N) := by rw [HNW.out.1]; exact ho
                   have HL2 := Lib.hid (lg_row HW.out.drew ht ho' (grown_any hg _) (.inr ha))
                   have HL3 := Lib.hid (lg_head HL2.out ht)
                   have d0' : w3.cell? ⟨lo, i * 4, none⟩ = some (.slice (some ⟨b1, 0, none⟩) L1 cp) := (HL2.out.cell 4 rfl (j := i * 4) (by omega)).trans (by rw [lgF_0, HN.out.1, HN.out.2.2.2.1, hb1, HCE.out.1])
                   have d1' : w3.cell? ⟨lo, t * 4, none⟩ = some (.slice (none) L2 cq) := (HL2.out.cell 4 rfl (j := t * 4) (by omega)).trans (by rw [lgF_0, HN.out.2.1, HN.out.2.2.2.2, hA2, HCE.out.2])
                   have fz := HL2.out.frz 4 rfl (by omega) (t * 4)
                   rw [HNW.out.1] at HL3
                   clear ho ho' hg ha HL2 HW c0 e0
                   refine holds ⟨d0', d1'⟩ ?_
                   refine tail_step ?_
                   go_wp2
                   refine holds ⟨d0', d1'⟩ ?_
                   refine tail_step ?_
                   go_wp2
                   refine holds ⟨d0', d1'⟩ ?_
                   refine tail_last ?_
                   go_wp2
                   have HTL := Lib.hid (show ((lgS t N S).lg i).length = L1 by show (upd S.lg t N i).length = L1; rw [upd_ne _ _ hit, HN.out.1, HN.out.2.2.2.1])
                   have HTU := Lib.hid (show (lgS t N S).su i = S.su i ∧ (lgS t N S).su t = S.su t from ⟨rfl, rfl⟩)
                   have HTA := Lib.hid (show (lgA t A2 c2 a).hn i = n ∧ (lgA t A2 c2 a).nn i = n from ⟨HH.out.2.2.1, HH.out.2.2.2⟩)
                   have HTE := Lib.hid (tell_eq (i := i) (t := t) (S := S) (N := N) (L1 := L1) (by rw [HN.out.1, HN.out.2.1, HN.out.2.2.1]; exact HNN.out) (by rw [HN.out.1, HN.out.2.2.2.1]))
                   have HDT := Lib.hid (lgA_ok (i := t) (A' := A2) (c' := c2) (l := N) HD.out)
                   refine at_lay (F := fun W' => Code.wp _ _ _ _ W') (HL3.out.sim ⟨rfl, rfl, rfl, rfl⟩) ?_
                   intro W8 hW8
                   have HW := Lib.hid hW8
                   clear hW8 HL3
                   generalize lgS t N S = T at HTL HTU HTE HDT HW
                   generalize lgA t A2 c2 a = AT at HTA HDT HW
                   clear d0' d1' fz
                   obtain ⟨c0, -, c2, c3⟩ := lg_cells HW.out (i := i) hi
                   obtain ⟨bh, bn, hbh, hbn, -, -, hcell⟩ := lg_hn HW.out hi HTA.out.1 HTA.out.2
                   obtain ⟨x0, f0, -, -⟩ := hcell t ht
                   rw [HTL.out] at c0
                   rw [hbh, HTA.out.1] at c2
                   rw [hbn, HTA.out.2] at c3
                   have HBB := Lib.hid (And.intro hbh hbn)
                   clear hcell hbh hbn
                   refine wp_held_mask (fun W => W.cell? ⟨lo, i * 4, none⟩ = some (.slice (AT.A i) L1 (AT.c i)) ∧ W.cell? ⟨lo, i * 4 + 2, none⟩ = some (.slice (some ⟨bh, 0, none⟩) n (AT.hc i)) ∧ W.cell? ⟨lo, i * 4 + 3, none⟩ = some (.slice (some ⟨bn, 0, none⟩) n (AT.nc i))) [true, true, true, true, true, true, true, true, true, true, true, true, true, true, true, true, true, true, true, true, true, false, false, false] ?A1pcnr (by kernel_rfl) rfl (by kernel_rfl) (by repeat' (first | (with_reducible apply tame_then) | (with_reducible apply tame_block) | (with_reducible apply tame_scope) | exact tame_gives | exact tame_body (fun _ _ h => ⟨_, h.1⟩))) ⟨c0, c2, c3⟩ ?headpcnr ?tailpcnr
                   case headpcnr =>
                     intro W5 ⟨s0, s1, s2⟩
                     simp only [pick]
                     go_wp2
                     exact taken
                   case tailpcnr =>
                     simp only [pick, List.map_cons, List.map_nil, Bool.not_true, Bool.not_false]
                     have HA1 := Lib.hid (lg_haset (x := L1) HW.out.drew hi ht HBB.out.1 HTA.out.1)
                     refine tail_step ?_
                     go_wp2
                     refine at_lay (F := fun W' => Holds _ _ _ _ _ _ _ W') HA1.out ?_
                     intro W6 hW6
                     have HA := Lib.hid hW6
                     clear hW6 HA1 HW c0 c2 c3 x0 f0
                     obtain ⟨c0a, -, c2, c3⟩ := lg_cells HA.out (i := i) hi
                     obtain ⟨bh', bn', hbh, hbn, -, -, hcell⟩ := lg_hn HA.out hi HTA.out.1 HTA.out.2
                     obtain ⟨-, -, x1, f1⟩ := hcell t ht
                     have c0 : W6.cell? ⟨lo, i * 4, none⟩ = some (.slice (AT.A i) L1 (AT.c i)) := c0a.trans (by rw [← HTL.out]; rfl)
                     clear c0a
                     rw [HBB.out.1, HTA.out.1] at c2
                     rw [HBB.out.2, HTA.out.2] at c3
                     obtain rfl : bn = bn' := by
                       have := HBB.out.2.symm.trans hbn
                       injection this with this; injection this
                     clear hcell hbh hbn
                     refine holds ⟨c0, c2, c3⟩ ?_
                     refine tail_step ?_
                     go_wp2
                     refine holds ⟨c0, c2, c3⟩ ?_
                     refine tail_last ?_
                     have HA2 := Lib.hid (lg_nxset (x := L1) HA.out hi ht HBB.out.2 HTA.out.2)
                     go_wp2
                     refine at_lay (F := fun W' => Code.wp _ _ _ _ W') (HA2.out.sim ⟨rfl, rfl, rfl, rfl⟩) ?_
                     intro W7 hW7
                     have HF := Lib.hid hW7
                     clear hW7 HA2 HA c0 c2 c3 x1 f1
                     obtain ⟨c0a, c1a, -, -⟩ := lg_cells HF.out (i := i) hi
                     obtain ⟨-, e1a, -, -⟩ := lg_cells HF.out (i := t) ht
                     have c0 : W7.cell? ⟨lo, i * 4, none⟩ = some (.slice (AT.A i) L1 (AT.c i)) := c0a.trans (by rw [← HTL.out]; rfl)
                     have c1 : W7.cell? ⟨lo, i * 4 + 1, none⟩ = some (.int .i64 (T.su i : Nat)) := c1a
                     have e1 : W7.cell? ⟨lo, t * 4 + 1, none⟩ = some (.int .i64 (T.su t : Nat)) := e1a
                     clear c0a c1a e1a
                     have fz := lg_frz HF.out (by omega) (t * 4 + 1)
                     have HSS := Lib.hid (fun x => lg_suset (x := x) HF.out.drew ht)
                     rw [HTU.out.1] at c1
                     rw [HTU.out.2] at e1
                     have h9 := HR5.out
                     rw [HTE.out] at h9
                     have HR6 := Lib.hid h9
                     clear HR5 h9 HTE HTU
                     generalize S.su i = p1 at *
                     generalize S.su t = p2 at *
                     clear HBB HTL HH HNN HNW
                     rcases Nat.lt_or_ge L1 p1 with hm1 | hm1
                     · rcases Nat.lt_or_ge p2 L1 with hm2 | hm2
                       · refine wp_text 18 (by kernel_rfl) (by kernel_rfl) (by kernel_rfl) (by repeat' (first | (with_reducible apply tame_then) | (with_reducible apply tame_block) | (with_reducible apply tame_scope) | exact tame_gives | exact tame_body (fun _ _ h => ⟨_, h.1⟩))) ?_
                         simp only [List.take_succ_cons, List.take_zero, List.drop_succ_cons, List.drop_zero]
                         go_wp2
                         refine headed ?_
                         go_wp2
                         go_ret
                         have e9 := HR6.out
                         rw [show max p2 (min p1 L1) = L1 by omega] at e9
                         subst e9
                         exact ⟨rfl, AT, HDT.out, (HSS.out L1).sim ⟨rfl, rfl, rfl, rfl⟩⟩
                       · refine wp_text 18 (by kernel_rfl) (by kernel_rfl) (by kernel_rfl) (by repeat' (first | (with_reducible apply tame_then) | (with_reducible apply tame_block) | (with_reducible apply tame_scope) | exact tame_gives | exact tame_body (fun _ _ h => ⟨_, h.1⟩))) ?_
                         simp only [List.take_succ_cons, List.take_zero, List.drop_succ_cons, List.drop_zero]
                         go_wp2
                         refine headed ?_
                         go_wp2
                         go_ret
                         have e9 := HR6.out
                         rw [show max p2 (min p1 L1) = p2 by omega] at e9
                         subst e9
                         exact ⟨rfl, AT, HDT.out, (HSS.out p2).sim ⟨rfl, rfl, rfl, rfl⟩⟩
                     · rcases Nat.lt_or_ge p2 p1 with hm2 | hm2
                       · refine wp_text 18 (by kernel_rfl) (by kernel_rfl) (by kernel_rfl) (by repeat' (first | (with_reducible apply tame_then) | (with_reducible apply tame_block) | (with_reducible apply tame_scope) | exact tame_gives | exact tame_body (fun _ _ h => ⟨_, h.1⟩))) ?_
                         simp only [List.take_succ_cons, List.take_zero, List.drop_succ_cons, List.drop_zero]
                         go_wp2
                         refine headed ?_
                         go_wp2
                         go_ret
                         have e9 := HR6.out
                         rw [show max p2 (min p1 L1) = p1 by omega] at e9
                         subst e9
                         exact ⟨rfl, AT, HDT.out, (HSS.out p1).sim ⟨rfl, rfl, rfl, rfl⟩⟩
                       · refine wp_text 18 (by kernel_rfl) (by kernel_rfl) (by kernel_rfl) (by repeat' (first | (with_reducible apply tame_then) | (with_reducible apply tame_block) | (with_reducible apply tame_scope) | exact tame_gives | exact tame_body (fun _ _ h => ⟨_, h.1⟩))) ?_
                         simp only [List.take_succ_cons, List.take_zero, List.drop_succ_cons, List.drop_zero]
                         go_wp2
                         refine headed ?_
                         go_wp2
                         go_ret
                         have e9 := HR6.out
                         rw [show max p2 (min p1 L1) = p2 by omega] at e9
                         subst e9
                         exact ⟨rfl, AT, HDT.out, (HSS.out p2).sim ⟨rfl, rfl, rfl, rfl⟩⟩
                   )
            · have HC2 := Lib.hid hc2
              rw [hA2] at e0
              clear hc2
              refine wp_held_mask (fun W => W.cell? ⟨lo, i * 4, none⟩ = some (.slice (some ⟨b1, 0, none⟩) L1 cp) ∧ W.cell? ⟨lo, t * 4, none⟩ = some (.slice (some ⟨b2, 0, none⟩) L2 cq)) [true, true, true, true, true, true, true, true, true, true, true, true, true, true, false, false, false, false] ?A1pcs (by kernel_rfl) rfl (by kernel_rfl) (by repeat' (first | (with_reducible apply tame_then) | (with_reducible apply tame_block) | (with_reducible apply tame_scope) | exact tame_gives | exact tame_body (fun _ _ h => ⟨_, h.1⟩))) ⟨c0, e0⟩ ?headpcs ?tailpcs
              case headpcs =>
                intro W5 ⟨s0, s1⟩
                simp only [pick]
                go_wp2
                exact taken
              case tailpcs =>
                simp only [pick, List.map_cons, List.map_nil, Bool.not_true, Bool.not_false]
                refine tail_step ?_
                refine wpList_apC rfl (.tmp 128) (.tmp 134) _ rfl 35 iE _ 2 16 Try.underlying33 hiE hzE0 hzE1 hzE2 rfl (by omega) w0.heap.size (A := some ⟨b2, 0, none⟩) (n := q) (f := entF lb) rfl (fun h => by cases h) (ap_some HC2.out) (ad := ⟨b1, q * 2, none⟩) (m := L1 - q) (c := cp - q) (g := fun j => entF la (q * 2 + j)) rfl (fun j hj => by rw [addr_off]; exact HP.out.1 (q * 2 + j) (by omega)) HP.out.2 (by omega) (fun j _ => ent_one la _) (entF N) HNW.out.2.1 HNW.out.2.2 L1 (by omega) (by unfold maxLen; omega) (by omega) HW.out.size ?_
                skip
                intro A2 c2 w3 ho hg ha
                have ho' : Own w3 w0.heap.size 35 2 A2 N.length c2 (entF N) := by rw [HNW.out.1]; exact ho
                have HL2 := Lib.hid (lg_row HW.out.drew ht ho' (grown_any hg _) (.inr ha))
                have HL3 := Lib.hid (lg_head HL2.out ht)
                have d0' : w3.cell? ⟨lo, i * 4, none⟩ = some (.slice (some ⟨b1, 0, none⟩) L1 cp) := (HL2.out.cell 4 rfl (j := i * 4) (by omega)).trans (by rw [lgF_0, HN.out.1, HN.out.2.2.2.1, hb1, HCE.out.1])
                have d1' : w3.cell? ⟨lo, t * 4, none⟩ = some (.slice (some ⟨b2, 0, none⟩) L2 cq) := (HL2.out.cell 4 rfl (j := t * 4) (by omega)).trans (by rw [lgF_0, HN.out.2.1, HN.out.2.2.2.2, hA2, HCE.out.2])
                have fz := HL2.out.frz 4 rfl (by omega) (t * 4)
                rw [HNW.out.1] at HL3
                clear ho ho' hg ha HL2 HW c0 e0
                refine holds ⟨d0', d1'⟩ ?_
                refine tail_step ?_
                go_wp2
                refine holds ⟨d0', d1'⟩ ?_
                refine tail_step ?_
                go_wp2
                refine holds ⟨d0', d1'⟩ ?_
                refine tail_last ?_
                go_wp2
                have HTL := Lib.hid (show ((lgS t N S).lg i).length = L1 by show (upd S.lg t N i).length = L1; rw [upd_ne _ _ hit, HN.out.1, HN.out.2.2.2.1])
                have HTU := Lib.hid (show (lgS t N S).su i = S.su i ∧ (lgS t N S).su t = S.su t from ⟨rfl, rfl⟩)
                have HTA := Lib.hid (show (lgA t A2 c2 a).hn i = n ∧ (lgA t A2 c2 a).nn i = n from ⟨HH.out.2.2.1, HH.out.2.2.2⟩)
                have HTE := Lib.hid (tell_eq (i := i) (t := t) (S := S) (N := N) (L1 := L1) (by rw [HN.out.1, HN.out.2.1, HN.out.2.2.1]; exact HNN.out) (by rw [HN.out.1, HN.out.2.2.2.1]))
                have HDT := Lib.hid (lgA_ok (i := t) (A' := A2) (c' := c2) (l := N) HD.out)
                refine at_lay (F := fun W' => Code.wp _ _ _ _ W') (HL3.out.sim ⟨rfl, rfl, rfl, rfl⟩) ?_
                intro W8 hW8
                have HW := Lib.hid hW8
                clear hW8 HL3
                generalize lgS t N S = T at HTL HTU HTE HDT HW
                generalize lgA t A2 c2 a = AT at HTA HDT HW
                clear d0' d1' fz
                obtain ⟨c0, -, c2, c3⟩ := lg_cells HW.out (i := i) hi
                obtain ⟨bh, bn, hbh, hbn, -, -, hcell⟩ := lg_hn HW.out hi HTA.out.1 HTA.out.2
                obtain ⟨x0, f0, -, -⟩ := hcell t ht
                rw [HTL.out] at c0
                rw [hbh, HTA.out.1] at c2
                rw [hbn, HTA.out.2] at c3
                have HBB := Lib.hid (And.intro hbh hbn)
                clear hcell hbh hbn
                refine wp_held_mask (fun W => W.cell? ⟨lo, i * 4, none⟩ = some (.slice (AT.A i) L1 (AT.c i)) ∧ W.cell? ⟨lo, i * 4 + 2, none⟩ = some (.slice (some ⟨bh, 0, none⟩) n (AT.hc i)) ∧ W.cell? ⟨lo, i * 4 + 3, none⟩ = some (.slice (some ⟨bn, 0, none⟩) n (AT.nc i))) [true, true, true, true, true, true, true, true, true, true, true, true, true, true, true, true, true, true, true, true, true, false, false, false] ?A1pcsr (by kernel_rfl) rfl (by kernel_rfl) (by repeat' (first | (with_reducible apply tame_then) | (with_reducible apply tame_block) | (with_reducible apply tame_scope) | exact tame_gives | exact tame_body (fun _ _ h => ⟨_, h.1⟩))) ⟨c0, c2, c3⟩ ?headpcsr ?tailpcsr
                case headpcsr =>
                  intro W5 ⟨s0, s1, s2⟩
                  simp only [pick]
                  go_wp2
                  exact taken
                case tailpcsr =>
                  simp only [pick, List.map_cons, List.map_nil, Bool.not_true, Bool.not_false]
                  have HA1 := Lib.hid (lg_haset (x := L1) HW.out.drew hi ht HBB.out.1 HTA.out.1)
                  refine tail_step ?_
                  go_wp2
                  refine at_lay (F := fun W' => Holds _ _ _ _ _ _ _ W') HA1.out ?_
                  intro W6 hW6
                  have HA := Lib.hid hW6
                  clear hW6 HA1 HW c0 c2 c3 x0 f0
                  obtain ⟨c0a, -, c2, c3⟩ := lg_cells HA.out (i := i) hi
                  obtain ⟨bh', bn', hbh, hbn, -, -, hcell⟩ := lg_hn HA.out hi HTA.out.1 HTA.out.2
                  obtain ⟨-, -, x1, f1⟩ := hcell t ht
                  have c0 : W6.cell? ⟨lo, i * 4, none⟩ = some (.slice (AT.A i) L1 (AT.c i)) := c0a.trans (by rw [← HTL.out]; rfl)
                  clear c0a
                  rw [HBB.out.1, HTA.out.1] at c2
                  rw [HBB.out.2, HTA.out.2] at c3
                  obtain rfl : bn = bn' := by
                    have := HBB.out.2.symm.trans hbn
                    injection this with this; injection this
                  clear hcell hbh hbn
                  refine holds ⟨c0, c2, c3⟩ ?_
                  refine tail_step ?_
                  go_wp2
                  refine holds ⟨c0, c2, c3⟩ ?_
                  refine tail_last ?_
                  have HA2 := Lib.hid (lg_nxset (x := L1) HA.out hi ht HBB.out.2 HTA.out.2)
                  go_wp2
                  refine at_lay (F := fun W' => Code.wp _ _ _ _ W') (HA2.out.sim ⟨rfl, rfl, rfl, rfl⟩) ?_
                  intro W7 hW7
                  have HF := Lib.hid hW7
                  clear hW7 HA2 HA c0 c2 c3 x1 f1
                  obtain ⟨c0a, c1a, -, -⟩ := lg_cells HF.out (i := i) hi
                  obtain ⟨-, e1a, -, -⟩ := lg_cells HF.out (i := t) ht
                  have c0 : W7.cell? ⟨lo, i * 4, none⟩ = some (.slice (AT.A i) L1 (AT.c i)) := c0a.trans (by rw [← HTL.out]; rfl)
                  have c1 : W7.cell? ⟨lo, i * 4 + 1, none⟩ = some (.int .i64 (T.su i : Nat)) := c1a
                  have e1 : W7.cell? ⟨lo, t * 4 + 1, none⟩ = some (.int .i64 (T.su t : Nat)) := e1a
                  clear c0a c1a e1a
                  have fz := lg_frz HF.out (by omega) (t * 4 + 1)
                  have HSS := Lib.hid (fun x => lg_suset (x := x) HF.out.drew ht)
                  rw [HTU.out.1] at c1
                  rw [HTU.out.2] at e1
                  have h9 := HR5.out
                  rw [HTE.out] at h9
                  have HR6 := Lib.hid h9
                  clear HR5 h9 HTE HTU
                  generalize S.su i = p1 at *
                  generalize S.su t = p2 at *
                  clear HBB HTL HH HNN HNW
                  rcases Nat.lt_or_ge L1 p1 with hm1 | hm1
                  · rcases Nat.lt_or_ge p2 L1 with hm2 | hm2
                    · refine wp_text 18 (by kernel_rfl) (by kernel_rfl) (by kernel_rfl) (by repeat' (first | (with_reducible apply tame_then) | (with_reducible apply tame_block) | (with_reducible apply tame_scope) | exact tame_gives | exact tame_body (fun _ _ h => ⟨_, h.1⟩))) ?_
                      simp only [List.take_succ_cons, List.take_zero, List.drop_succ_cons, List.drop_zero]
                      go_wp2
                      refine headed ?_
                      go_wp2
                      go_ret
                      have e9 := HR6.out
                      rw [show max p2 (min p1 L1) = L1 by omega] at e9
                      subst e9
                      exact ⟨rfl, AT, HDT.out, (HSS.out L1).sim ⟨rfl, rfl, rfl, rfl⟩⟩
                    · refine wp_text 18 (by kernel_rfl) (by kernel_rfl) (by kernel_rfl) (by repeat' (first | (with_reducible apply tame_then) | (with_reducible apply tame_block) | (with_reducible apply tame_scope) | exact tame_gives | exact tame_body (fun _ _ h => ⟨_, h.1⟩))) ?_
                      simp only [List.take_succ_cons, List.take_zero, List.drop_succ_cons, List.drop_zero]
                      go_wp2
                      refine headed ?_
                      go_wp2
                      go_ret
                      have e9 := HR6.out
                      rw [show max p2 (min p1 L1) = p2 by omega] at e9
                      subst e9
                      exact ⟨rfl, AT, HDT.out, (HSS.out p2).sim ⟨rfl, rfl, rfl, rfl⟩⟩
                  · rcases Nat.lt_or_ge p2 p1 with hm2 | hm2
                    · refine wp_text 18 (by kernel_rfl) (by kernel_rfl) (by kernel_rfl) (by repeat' (first | (with_reducible apply tame_then) | (with_reducible apply tame_block) | (with_reducible apply tame_scope) | exact tame_gives | exact tame_body (fun _ _ h => ⟨_, h.1⟩))) ?_
                      simp only [List.take_succ_cons, List.take_zero, List.drop_succ_cons, List.drop_zero]
                      go_wp2
                      refine headed ?_
                      go_wp2
                      go_ret
                      have e9 := HR6.out
                      rw [show max p2 (min p1 L1) = p1 by omega] at e9
                      subst e9
                      exact ⟨rfl, AT, HDT.out, (HSS.out p1).sim ⟨rfl, rfl, rfl, rfl⟩⟩
                    · refine wp_text 18 (by kernel_rfl) (by kernel_rfl) (by kernel_rfl) (by repeat' (first | (with_reducible apply tame_then) | (with_reducible apply tame_block) | (with_reducible apply tame_scope) | exact tame_gives | exact tame_body (fun _ _ h => ⟨_, h.1⟩))) ?_
                      simp only [List.take_succ_cons, List.take_zero, List.drop_succ_cons, List.drop_zero]
                      go_wp2
                      refine headed ?_
                      go_wp2
                      go_ret
                      have e9 := HR6.out
                      rw [show max p2 (min p1 L1) = p2 by omega] at e9
                      subst e9
                      exact ⟨rfl, AT, HDT.out, (HSS.out p2).sim ⟨rfl, rfl, rfl, rfl⟩⟩
        · have hqL : q = L1 := by omega
          go_wp2
          refine wp_text_all (by kernel_rfl) (by kernel_rfl) (by kernel_rfl) (by repeat' (first | (with_reducible apply tame_then) | (with_reducible apply tame_block) | (with_reducible apply tame_scope) | exact tame_gives | exact tame_body (fun _ _ h => ⟨_, h.1⟩))) ?_
          go_wp2
          refine headed ?_
          go_wp2
          have hAQ : alike la lb (L1 - (0)) (0) = q := HAL.out.symm.trans (alike_stop (.inl (by omega)))
          have hN : sendLog la lb (0) = lb := by
            unfold sendLog
            rw [HN.out.2.2.2.1, hAQ, if_neg (by omega)]
          refine at_lay (F := fun W' => Code.wp _ _ _ _ W') (HQ.out.sim ⟨rfl, rfl, rfl, rfl⟩) ?_
          intro W8 hW8
          have HE0 := tell_eq (i := i) (t := t) (S := S) (N := lb) (L1 := L1) (by rw [HN.out.1, HN.out.2.1, HN.out.2.2.1]; exact hN) (by rw [HN.out.1, HN.out.2.2.2.1])
          rw [← HN.out.2.1, lgS_self] at HE0
          obtain ⟨T, hT⟩ : ∃ T, S = T := ⟨_, rfl⟩
          obtain ⟨AT, hAT⟩ : ∃ AT, a = AT := ⟨_, rfl⟩
          have HTL := Lib.hid (show (T.lg i).length = L1 by rw [← hT, HN.out.1, HN.out.2.2.2.1])
          have HTU := Lib.hid (show T.su i = S.su i ∧ T.su t = S.su t by rw [← hT]; exact ⟨rfl, rfl⟩)
          have HTA := Lib.hid (show AT.hn i = n ∧ AT.nn i = n by rw [← hAT]; exact ⟨HH.out.2.2.1, HH.out.2.2.2⟩)
          have HTE := Lib.hid (show tellL i t S = suS t (max (S.su t) (min (S.su i) L1)) (nxS i t L1 (haS i t L1 T)) by rw [← hT]; exact HE0)
          have HDT := Lib.hid (show LdOk n AT T by rw [← hT, ← hAT]; exact HD.out)
          have HW : Hid (Lay w0 W8 (rowsG gg g gl lo n T A cap AT R)) := Lib.hid (by rw [← hT, ← hAT]; exact hW8)
          have HNN := Lib.hid hN
          have HNW := Lib.hid hqL
          clear hW8 HE0 hT hAT hAQ hN HQ c0 e0
          obtain ⟨c0, -, c2, c3⟩ := lg_cells HW.out (i := i) hi
          obtain ⟨bh, bn, hbh, hbn, -, -, hcell⟩ := lg_hn HW.out hi HTA.out.1 HTA.out.2
          obtain ⟨x0, f0, -, -⟩ := hcell t ht
          rw [HTL.out] at c0
          rw [hbh, HTA.out.1] at c2
          rw [hbn, HTA.out.2] at c3
          have HBB := Lib.hid (And.intro hbh hbn)
          clear hcell hbh hbn
          refine wp_held_mask (fun W => W.cell? ⟨lo, i * 4, none⟩ = some (.slice (AT.A i) L1 (AT.c i)) ∧ W.cell? ⟨lo, i * 4 + 2, none⟩ = some (.slice (some ⟨bh, 0, none⟩) n (AT.hc i)) ∧ W.cell? ⟨lo, i * 4 + 3, none⟩ = some (.slice (some ⟨bn, 0, none⟩) n (AT.nc i))) [true, true, true, true, true, true, true, true, true, true, true, true, true, true, true, true, true, true, true, true, true, false, false, false] ?A1pdr (by kernel_rfl) rfl (by kernel_rfl) (by repeat' (first | (with_reducible apply tame_then) | (with_reducible apply tame_block) | (with_reducible apply tame_scope) | exact tame_gives | exact tame_body (fun _ _ h => ⟨_, h.1⟩))) ⟨c0, c2, c3⟩ ?headpdr ?tailpdr
          case headpdr =>
            intro W5 ⟨s0, s1, s2⟩
            simp only [pick]
            go_wp2
            exact taken
          case tailpdr =>
            simp only [pick, List.map_cons, List.map_nil, Bool.not_true, Bool.not_false]
            have HA1 := Lib.hid (lg_haset (x := L1) HW.out.drew hi ht HBB.out.1 HTA.out.1)
            refine tail_step ?_
            go_wp2
            refine at_lay (F := fun W' => Holds _ _ _ _ _ _ _ W') HA1.out ?_
            intro W6 hW6
            have HA := Lib.hid hW6
            clear hW6 HA1 HW c0 c2 c3 x0 f0
            obtain ⟨c0a, -, c2, c3⟩ := lg_cells HA.out (i := i) hi
            obtain ⟨bh', bn', hbh, hbn, -, -, hcell⟩ := lg_hn HA.out hi HTA.out.1 HTA.out.2
            obtain ⟨-, -, x1, f1⟩ := hcell t ht
            have c0 : W6.cell? ⟨lo, i * 4, none⟩ = some (.slice (AT.A i) L1 (AT.c i)) := c0a.trans (by rw [← HTL.out]; rfl)
            clear c0a
            rw [HBB.out.1, HTA.out.1] at c2
            rw [HBB.out.2, HTA.out.2] at c3
            obtain rfl : bn = bn' := by
              have := HBB.out.2.symm.trans hbn
              injection this with this; injection this
            clear hcell hbh hbn
            refine holds ⟨c0, c2, c3⟩ ?_
            refine tail_step ?_
            go_wp2
            refine holds ⟨c0, c2, c3⟩ ?_
            refine tail_last ?_
            have HA2 := Lib.hid (lg_nxset (x := L1) HA.out hi ht HBB.out.2 HTA.out.2)
            go_wp2
            refine at_lay (F := fun W' => Code.wp _ _ _ _ W') (HA2.out.sim ⟨rfl, rfl, rfl, rfl⟩) ?_
            intro W7 hW7
            have HF := Lib.hid hW7
            clear hW7 HA2 HA c0 c2 c3 x1 f1
            obtain ⟨c0a, c1a, -, -⟩ := lg_cells HF.out (i := i) hi
            obtain ⟨-, e1a, -, -⟩ := lg_cells HF.out (i := t) ht
            have c0 : W7.cell? ⟨lo, i * 4, none⟩ = some (.slice (AT.A i) L1 (AT.c i)) := c0a.trans (by rw [← HTL.out]; rfl)
            have c1 : W7.cell? ⟨lo, i * 4 + 1, none⟩ = some (.int .i64 (T.su i : Nat)) := c1a
            have e1 : W7.cell? ⟨lo, t * 4 + 1, none⟩ = some (.int .i64 (T.su t : Nat)) := e1a
            clear c0a c1a e1a
            have fz := lg_frz HF.out (by omega) (t * 4 + 1)
            have HSS := Lib.hid (fun x => lg_suset (x := x) HF.out.drew ht)
            rw [HTU.out.1] at c1
            rw [HTU.out.2] at e1
            have h9 := HR5.out
            rw [HTE.out] at h9
            have HR6 := Lib.hid h9
            clear HR5 h9 HTE HTU
            generalize S.su i = p1 at *
            generalize S.su t = p2 at *
            clear HBB HTL HH HNN HNW
            rcases Nat.lt_or_ge L1 p1 with hm1 | hm1
            · rcases Nat.lt_or_ge p2 L1 with hm2 | hm2
              · refine wp_text 18 (by kernel_rfl) (by kernel_rfl) (by kernel_rfl) (by repeat' (first | (with_reducible apply tame_then) | (with_reducible apply tame_block) | (with_reducible apply tame_scope) | exact tame_gives | exact tame_body (fun _ _ h => ⟨_, h.1⟩))) ?_
                simp only [List.take_succ_cons, List.take_zero, List.drop_succ_cons, List.drop_zero]
                go_wp2
                refine headed ?_
                go_wp2
                go_ret
                have e9 := HR6.out
                rw [show max p2 (min p1 L1) = L1 by omega] at e9
                subst e9
                exact ⟨rfl, AT, HDT.out, (HSS.out L1).sim ⟨rfl, rfl, rfl, rfl⟩⟩
              · refine wp_text 18 (by kernel_rfl) (by kernel_rfl) (by kernel_rfl) (by repeat' (first | (with_reducible apply tame_then) | (with_reducible apply tame_block) | (with_reducible apply tame_scope) | exact tame_gives | exact tame_body (fun _ _ h => ⟨_, h.1⟩))) ?_
                simp only [List.take_succ_cons, List.take_zero, List.drop_succ_cons, List.drop_zero]
                go_wp2
                refine headed ?_
                go_wp2
                go_ret
                have e9 := HR6.out
                rw [show max p2 (min p1 L1) = p2 by omega] at e9
                subst e9
                exact ⟨rfl, AT, HDT.out, (HSS.out p2).sim ⟨rfl, rfl, rfl, rfl⟩⟩
            · rcases Nat.lt_or_ge p2 p1 with hm2 | hm2
              · refine wp_text 18 (by kernel_rfl) (by kernel_rfl) (by kernel_rfl) (by repeat' (first | (with_reducible apply tame_then) | (with_reducible apply tame_block) | (with_reducible apply tame_scope) | exact tame_gives | exact tame_body (fun _ _ h => ⟨_, h.1⟩))) ?_
                simp only [List.take_succ_cons, List.take_zero, List.drop_succ_cons, List.drop_zero]
                go_wp2
                refine headed ?_
                go_wp2
                go_ret
                have e9 := HR6.out
                rw [show max p2 (min p1 L1) = p1 by omega] at e9
                subst e9
                exact ⟨rfl, AT, HDT.out, (HSS.out p1).sim ⟨rfl, rfl, rfl, rfl⟩⟩
              · refine wp_text 18 (by kernel_rfl) (by kernel_rfl) (by kernel_rfl) (by repeat' (first | (with_reducible apply tame_then) | (with_reducible apply tame_block) | (with_reducible apply tame_scope) | exact tame_gives | exact tame_body (fun _ _ h => ⟨_, h.1⟩))) ?_
                simp only [List.take_succ_cons, List.take_zero, List.drop_succ_cons, List.drop_zero]
                go_wp2
                refine headed ?_
                go_wp2
                go_ret
                have e9 := HR6.out
                rw [show max p2 (min p1 L1) = p2 by omega] at e9
                subst e9
                exact ⟨rfl, AT, HDT.out, (HSS.out p2).sim ⟨rfl, rfl, rfl, rfl⟩⟩
    · rw [HN.out.2.2.2.2] at hml
      clear hm
      obtain ⟨b1, hb1, -, y0, y1a⟩ := lg_ent H1.out hi (k := m) (by rw [HN.out.1, HN.out.2.2.2.1]; omega)
      obtain ⟨b2, hb2, -, z0, z1a⟩ := lg_ent H1.out ht (k := m) (by rw [HN.out.2.1, HN.out.2.2.2.2]; omega)
      rw [HN.out.1] at y0 y1a
      rw [HN.out.2.1] at z0 z1a
      have y1 : w1.cell? ⟨b1, m * 2 + 1, none⟩ = some (.int .i64 (vle la m)) := y1a
      have z1 : w1.cell? ⟨b2, m * 2 + 1, none⟩ = some (.int .i64 (vle lb m)) := z1a
      clear y1a z1a
      rw [hb1] at c0
      rw [hb2] at e0
      clear hb1 hb2
      generalize trm la m = u1 at y0 g1
      generalize trm lb m = u2 at z0 g1
      generalize vle la m = v1 at y1 g2
      generalize vle lb m = v2 at z1 g2
      have g1' := cast_beq g1
      clear g1
      go_wp2
      refine wp_text_all (by kernel_rfl) (by kernel_rfl) (by kernel_rfl) (by repeat' (first | (with_reducible apply tame_then) | (with_reducible apply tame_block) | (with_reducible apply tame_scope) | exact tame_gives | exact tame_body (fun _ _ h => ⟨_, h.1⟩))) ?_
      go_wp2
      refine headed ?_
      go_wp2
      refine wp_text_all (by kernel_rfl) (by kernel_rfl) (by kernel_rfl) (by repeat' (first | (with_reducible apply tame_then) | (with_reducible apply tame_block) | (with_reducible apply tame_scope) | exact tame_gives | exact tame_body (fun _ _ h => ⟨_, h.1⟩))) ?_
      go_wp2
      refine headed ?_
      go_wp2
      clear y0 y1 z0 z1 g1' g2 c0 e0 c3 x0 x1
      go_loopw [10] (fun i wr => ∃ q : Nat, (m + 1) ≤ q ∧ q ≤ L1 ∧ q ≤ L2 ∧ i = .int .i64 q ∧ Hid (alike la lb (L1 - q) q = alike la lb (L1 - (m + 1)) (m + 1)) ∧ Hid (Lay w0 wr (rowsG gg g gl lo n S A cap a R))) (fun i _ => L1 - (intOf i).toNat)
      case atStart => exact ⟨m + 1, Nat.le_refl _, by omega, by omega, rfl, Lib.hid rfl, H1.out.sim ⟨rfl, rfl, rfl, rfl⟩⟩
      case round =>
        clear H1
        obtain ⟨q, hkq, hq1, hq2, rfl, HAL, HQ⟩ := hrel
        obtain ⟨c0, -, -, -⟩ := lg_cells HQ.out (i := i) hi
        obtain ⟨e0, -, -, -⟩ := lg_cells HQ.out (i := t) ht
        rw [HN.out.1, HN.out.2.2.2.1] at c0
        rw [HN.out.2.1, HN.out.2.2.2.2] at e0
        by_cases hlt1 : q < L1
        · by_cases hlt2 : q < L2
          · obtain ⟨b1, hb1, -, y0, y1a⟩ := lg_ent HQ.out hi (k := q) (by rw [HN.out.1, HN.out.2.2.2.1]; omega)
            obtain ⟨b2, hb2, -, z0, z1a⟩ := lg_ent HQ.out ht (k := q) (by rw [HN.out.2.1, HN.out.2.2.2.2]; omega)
            rw [HN.out.1] at y0 y1a
            rw [HN.out.2.1] at z0 z1a
            have y1 : wr.cell? ⟨b1, q * 2 + 1, none⟩ = some (.int .i64 (vle la q)) := y1a
            have z1 : wr.cell? ⟨b2, q * 2 + 1, none⟩ = some (.int .i64 (vle lb q)) := z1a
            clear y1a z1a
            rw [hb1] at c0
            rw [hb2] at e0
            clear hb1 hb2
            have HE := Lib.hid (same_ent (a := la) (b := lb) (k := q) (by rw [HN.out.2.2.2.1]; omega) (by rw [HN.out.2.2.2.2]; omega))
            generalize trm la q = u1 at y0 HE
            generalize trm lb q = u2 at z0 HE
            generalize vle la q = v1 at y1 HE
            generalize vle lb q = v2 at z1 HE
            obtain ⟨f1, hf1⟩ : ∃ f, (u1 == u2) = f := ⟨_, rfl⟩
            obtain ⟨f2, hf2⟩ : ∃ f, (v1 == v2) = f := ⟨_, rfl⟩
            have hf1' := cast_beq hf1
            have HF := Lib.hid hf1
            clear hf1
            cases f1
            · have HEX := Lib.hid (alike_stop (a := la) (b := lb) (f := L1 - q) (k := q) (.inr (.inr (fun h => by
                have h2 := HF.out
                rw [(HE.out.1 h).1, beq_self_eq_true] at h2; cases h2))))
              go_wp2
              refine wp_text_all (by kernel_rfl) (by kernel_rfl) (by kernel_rfl) (by repeat' (first | (with_reducible apply tame_then) | (with_reducible apply tame_block) | (with_reducible apply tame_scope) | exact tame_gives | exact tame_body (fun _ _ h => ⟨_, h.1⟩))) ?_
              go_wp2
              refine headed ?_
              go_wp2
              have HAQ : Hid (alike la lb (L1 - (m + 1)) (m + 1) = q) := Lib.hid (HAL.out.symm.trans HEX.out)
              refine at_lay (F := fun W' => Code.wp _ _ _ _ W') (HQ.out.sim ⟨rfl, rfl, rfl, rfl⟩) ?_
              intro W hW
              have HW := Lib.hid hW
              clear hW HQ HAL HEX c0 e0
              obtain ⟨o1, -, -⟩ := lg_own HW.out hi
              obtain ⟨o2, -, -⟩ := lg_own HW.out ht
              obtain ⟨c0, -, -, -⟩ := lg_cells HW.out (i := i) hi
              obtain ⟨e0, -, -, -⟩ := lg_cells HW.out (i := t) ht
              rw [HN.out.1, HN.out.2.2.2.1] at o1 c0
              rw [HN.out.2.1, HN.out.2.2.2.2] at o2 e0
              obtain ⟨b1, hb1, -, hb1l, p1, -⟩ := o1.pos (by omega)
              obtain ⟨hcp1, hcp2⟩ := o1.le
              obtain ⟨hcq1, hcq2⟩ := o2.le
              rw [hb1] at c0
              have h2A : (a.A t = none ∧ q = 0 ∧ L2 = 0) ∨ ∃ b2, a.A t = some ⟨b2, 0, none⟩ ∧ ∀ j, j < q * 2 → W.cell? ⟨b2, j, none⟩ = some (entF lb j) := by
                rcases o2 with ⟨x1, x2, -⟩ | ⟨b2, cur, x1, -, x3, -, -, -, x7⟩
                · exact .inl ⟨x1, by omega, x2⟩
                · refine .inr ⟨b2, x1, fun j hj => ?_⟩
                  rw [cell_of_row _ _ _ _ _ _ x3]
                  exact x7 j (by omega)
              have HNW := Lib.hid (send_new (la := la) (lb := lb) (k := m + 1) (q := q) (by rw [HN.out.2.2.2.1]; exact HAQ.out) (by rw [HN.out.2.2.2.1]; exact hlt1) (by rw [HN.out.2.2.2.2]; exact hq2))
              obtain ⟨N, hN⟩ : ∃ N, sendLog la lb (m + 1) = N := ⟨_, rfl⟩
              rw [hN, HN.out.2.2.2.1] at HNW
              have HNN := Lib.hid hN
              generalize hcpe : a.c i = cp at c0 hcp1 hcp2
              generalize hcqe : a.c t = cq at e0 hcq1 hcq2
              unfold maxLen at hcp2 hcq2
              have HP := Lib.hid (And.intro p1 hb1l)
              have HCE := Lib.hid (And.intro hcpe hcqe)
              have hct : ¬ cp = q := by omega
              clear o1 o2 p1 HAQ hN hcpe hcqe
              rcases h2A with ⟨hA2, rfl, hz⟩ | ⟨b2, hA2, hc2⟩
              · first
                | (exfalso; omega)
                | (rw [hA2] at e0
                   refine wp_held_mask (fun W => W.cell? ⟨lo, i * 4, none⟩ = some (.slice (some ⟨b1, 0, none⟩) L1 cp) ∧ W.cell? ⟨lo, t * 4, none⟩ = some (.slice none L2 cq)) [true, true, true, true, true, true, true, true, true, true, true, true, true, true, false, false, false, false] ?A1qan (by kernel_rfl) rfl (by kernel_rfl) (by repeat' (first | (with_reducible apply tame_then) | (with_reducible apply tame_block) | (with_reducible apply tame_scope) | exact tame_gives | exact tame_body (fun _ _ h => ⟨_, h.1⟩))) ⟨c0, e0⟩ ?headqan ?tailqan
                   case headqan =>
                     intro W5 ⟨s0, s1⟩
                     simp only [pick]
                     go_wp2
                     exact taken
                   case tailqan =>
                     simp only [pick, List.map_cons, List.map_nil, Bool.not_true, Bool.not_false]
                     refine tail_step ?_
                     refine wpList_apC rfl (.tmp 128) (.tmp 134) _ rfl 35 iE _ 2 16 Try.underlying33 hiE hzE0 hzE1 hzE2 rfl (by omega) w0.heap.size (A := none) (n := 0) (f := entF lb) rfl (fun _ => rfl) (fun ad e => by cases e) (ad := ⟨b1, 0 * 2, none⟩) (m := L1 - 0) (c := cp - 0) (g := fun j => entF la (0 * 2 + j)) rfl (fun j hj => by rw [addr_off]; exact HP.out.1 (0 * 2 + j) (by omega)) HP.out.2 (by omega) (fun j _ => ent_one la _) (entF N) HNW.out.2.1 HNW.out.2.2 L1 (by omega) (by unfold maxLen; omega) (by omega) HW.out.size ?_
                     skip
                     intro A2 c2 w3 ho hg ha
                     have ho' : Own w3 w0.heap.size 35 2 A2 N.length c2 (entF N) := by rw [HNW.out.1]; exact ho
                     have HL2 := Lib.hid (lg_row HW.out.drew ht ho' (grown_any hg _) (.inr ha))
                     have HL3 := Lib.hid (lg_head HL2.out ht)
                     have d0' : w3.cell? ⟨lo, i * 4, none⟩ = some (.slice (some ⟨b1, 0, none⟩) L1 cp) := (HL2.out.cell 4 rfl (j := i * 4) (by omega)).trans (by rw [lgF_0, HN.out.1, HN.out.2.2.2.1, hb1, HCE.out.1])
                     have d1' : w3.cell? ⟨lo, t * 4, none⟩ = some (.slice (none) L2 cq) := (HL2.out.cell 4 rfl (j := t * 4) (by omega)).trans (by rw [lgF_0, HN.out.2.1, HN.out.2.2.2.2, hA2, HCE.out.2])
                     have fz := HL2.out.frz 4 rfl (by omega) (t * 4)
                     rw [HNW.out.1] at HL3
                     clear ho ho' hg ha HL2 HW c0 e0
                     refine holds ⟨d0', d1'⟩ ?_
                     refine tail_step ?_
                     go_wp2
                     refine holds ⟨d0', d1'⟩ ?_
                     refine tail_step ?_
                     go_wp2
                     refine holds ⟨d0', d1'⟩ ?_
                     refine tail_last ?_
                     go_wp2
                     have HTL := Lib.hid (show ((lgS t N S).lg i).length = L1 by show (upd S.lg t N i).length = L1; rw [upd_ne _ _ hit, HN.out.1, HN.out.2.2.2.1])
                     have HTU := Lib.hid (show (lgS t N S).su i = S.su i ∧ (lgS t N S).su t = S.su t from ⟨rfl, rfl⟩)
                     have HTA := Lib.hid (show (lgA t A2 c2 a).hn i = n ∧ (lgA t A2 c2 a).nn i = n from ⟨HH.out.2.2.1, HH.out.2.2.2⟩)
                     have HTE := Lib.hid (tell_eq (i := i) (t := t) (S := S) (N := N) (L1 := L1) (by rw [HN.out.1, HN.out.2.1, HN.out.2.2.1]; exact HNN.out) (by rw [HN.out.1, HN.out.2.2.2.1]))
                     have HDT := Lib.hid (lgA_ok (i := t) (A' := A2) (c' := c2) (l := N) HD.out)
                     refine at_lay (F := fun W' => Code.wp _ _ _ _ W') (HL3.out.sim ⟨rfl, rfl, rfl, rfl⟩) ?_
                     intro W8 hW8
                     have HW := Lib.hid hW8
                     clear hW8 HL3
                     generalize lgS t N S = T at HTL HTU HTE HDT HW
                     generalize lgA t A2 c2 a = AT at HTA HDT HW
                     clear d0' d1' fz
                     obtain ⟨c0, -, c2, c3⟩ := lg_cells HW.out (i := i) hi
                     obtain ⟨bh, bn, hbh, hbn, -, -, hcell⟩ := lg_hn HW.out hi HTA.out.1 HTA.out.2
                     obtain ⟨x0, f0, -, -⟩ := hcell t ht
                     rw [HTL.out] at c0
                     rw [hbh, HTA.out.1] at c2
                     rw [hbn, HTA.out.2] at c3
                     have HBB := Lib.hid (And.intro hbh hbn)
                     clear hcell hbh hbn
                     refine wp_held_mask (fun W => W.cell? ⟨lo, i * 4, none⟩ = some (.slice (AT.A i) L1 (AT.c i)) ∧ W.cell? ⟨lo, i * 4 + 2, none⟩ = some (.slice (some ⟨bh, 0, none⟩) n (AT.hc i)) ∧ W.cell? ⟨lo, i * 4 + 3, none⟩ = some (.slice (some ⟨bn, 0, none⟩) n (AT.nc i))) [true, true, true, true, true, true, true, true, true, true, true, true, true, true, true, true, true, true, true, true, true, false, false, false] ?A1qanr (by kernel_rfl) rfl (by kernel_rfl) (by repeat' (first | (with_reducible apply tame_then) | (with_reducible apply tame_block) | (with_reducible apply tame_scope) | exact tame_gives | exact tame_body (fun _ _ h => ⟨_, h.1⟩))) ⟨c0, c2, c3⟩ ?headqanr ?tailqanr
                     case headqanr =>
                       intro W5 ⟨s0, s1, s2⟩
                       simp only [pick]
                       go_wp2
                       exact taken
                     case tailqanr =>
                       simp only [pick, List.map_cons, List.map_nil, Bool.not_true, Bool.not_false]
                       have HA1 := Lib.hid (lg_haset (x := L1) HW.out.drew hi ht HBB.out.1 HTA.out.1)
                       refine tail_step ?_
                       go_wp2
                       refine at_lay (F := fun W' => Holds _ _ _ _ _ _ _ W') HA1.out ?_
                       intro W6 hW6
                       have HA := Lib.hid hW6
                       clear hW6 HA1 HW c0 c2 c3 x0 f0
                       obtain ⟨c0a, -, c2, c3⟩ := lg_cells HA.out (i := i) hi
                       obtain ⟨bh', bn', hbh, hbn, -, -, hcell⟩ := lg_hn HA.out hi HTA.out.1 HTA.out.2
                       obtain ⟨-, -, x1, f1⟩ := hcell t ht
                       have c0 : W6.cell? ⟨lo, i * 4, none⟩ = some (.slice (AT.A i) L1 (AT.c i)) := c0a.trans (by rw [← HTL.out]; rfl)
                       clear c0a
                       rw [HBB.out.1, HTA.out.1] at c2
                       rw [HBB.out.2, HTA.out.2] at c3
                       obtain rfl : bn = bn' := by
                         have := HBB.out.2.symm.trans hbn
                         injection this with this; injection this
                       clear hcell hbh hbn
                       refine holds ⟨c0, c2, c3⟩ ?_
                       refine tail_step ?_
                       go_wp2
                       refine holds ⟨c0, c2, c3⟩ ?_
                       refine tail_last ?_
                       have HA2 := Lib.hid (lg_nxset (x := L1) HA.out hi ht HBB.out.2 HTA.out.2)
                       go_wp2
                       refine at_lay (F := fun W' => Code.wp _ _ _ _ W') (HA2.out.sim ⟨rfl, rfl, rfl, rfl⟩) ?_
                       intro W7 hW7
                       have HF := Lib.hid hW7
                       clear hW7 HA2 HA c0 c2 c3 x1 f1
                       obtain ⟨c0a, c1a, -, -⟩ := lg_cells HF.out (i := i) hi
                       obtain ⟨-, e1a, -, -⟩ := lg_cells HF.out (i := t) ht
                       have c0 : W7.cell? ⟨lo, i * 4, none⟩ = some (.slice (AT.A i) L1 (AT.c i)) := c0a.trans (by rw [← HTL.out]; rfl)
                       have c1 : W7.cell? ⟨lo, i * 4 + 1, none⟩ = some (.int .i64 (T.su i : Nat)) := c1a
                       have e1 : W7.cell? ⟨lo, t * 4 + 1, none⟩ = some (.int .i64 (T.su t : Nat)) := e1a
                       clear c0a c1a e1a
                       have fz := lg_frz HF.out (by omega) (t * 4 + 1)
                       have HSS := Lib.hid (fun x => lg_suset (x := x) HF.out.drew ht)
                       rw [HTU.out.1] at c1
                       rw [HTU.out.2] at e1
                       have h9 := HR5.out
                       rw [HTE.out] at h9
                       have HR6 := Lib.hid h9
                       clear HR5 h9 HTE HTU
                       generalize S.su i = p1 at *
                       generalize S.su t = p2 at *
                       clear HBB HTL HH HNN HNW
                       rcases Nat.lt_or_ge L1 p1 with hm1 | hm1
                       · rcases Nat.lt_or_ge p2 L1 with hm2 | hm2
                         · refine wp_text 18 (by kernel_rfl) (by kernel_rfl) (by kernel_rfl) (by repeat' (first | (with_reducible apply tame_then) | (with_reducible apply tame_block) | (with_reducible apply tame_scope) | exact tame_gives | exact tame_body (fun _ _ h => ⟨_, h.1⟩))) ?_
                           simp only [List.take_succ_cons, List.take_zero, List.drop_succ_cons, List.drop_zero]
                           go_wp2
                           refine headed ?_
                           go_wp2
                           go_ret
                           have e9 := HR6.out
                           rw [show max p2 (min p1 L1) = L1 by omega] at e9
                           subst e9
                           exact ⟨rfl, AT, HDT.out, (HSS.out L1).sim ⟨rfl, rfl, rfl, rfl⟩⟩
                         · refine wp_text 18 (by kernel_rfl) (by kernel_rfl) (by kernel_rfl) (by repeat' (first | (with_reducible apply tame_then) | (with_reducible apply tame_block) | (with_reducible apply tame_scope) | exact tame_gives | exact tame_body (fun _ _ h => ⟨_, h.1⟩))) ?_
                           simp only [List.take_succ_cons, List.take_zero, List.drop_succ_cons, List.drop_zero]
                           go_wp2
                           refine headed ?_
                           go_wp2
                           go_ret
                           have e9 := HR6.out
                           rw [show max p2 (min p1 L1) = p2 by omega] at e9
                           subst e9
                           exact ⟨rfl, AT, HDT.out, (HSS.out p2).sim ⟨rfl, rfl, rfl, rfl⟩⟩
                       · rcases Nat.lt_or_ge p2 p1 with hm2 | hm2
                         · refine wp_text 18 (by kernel_rfl) (by kernel_rfl) (by kernel_rfl) (by repeat' (first | (with_reducible apply tame_then) | (with_reducible apply tame_block) | (with_reducible apply tame_scope) | exact tame_gives | exact tame_body (fun _ _ h => ⟨_, h.1⟩))) ?_
                           simp only [List.take_succ_cons, List.take_zero, List.drop_succ_cons, List.drop_zero]
                           go_wp2
                           refine headed ?_
                           go_wp2
                           go_ret
                           have e9 := HR6.out
                           rw [show max p2 (min p1 L1) = p1 by omega] at e9
                           subst e9
                           exact ⟨rfl, AT, HDT.out, (HSS.out p1).sim ⟨rfl, rfl, rfl, rfl⟩⟩
                         · refine wp_text 18 (by kernel_rfl) (by kernel_rfl) (by kernel_rfl) (by repeat' (first | (with_reducible apply tame_then) | (with_reducible apply tame_block) | (with_reducible apply tame_scope) | exact tame_gives | exact tame_body (fun _ _ h => ⟨_, h.1⟩))) ?_
                           simp only [List.take_succ_cons, List.take_zero, List.drop_succ_cons, List.drop_zero]
                           go_wp2
                           refine headed ?_
                           go_wp2
                           go_ret
                           have e9 := HR6.out
                           rw [show max p2 (min p1 L1) = p2 by omega] at e9
                           subst e9
                           exact ⟨rfl, AT, HDT.out, (HSS.out p2).sim ⟨rfl, rfl, rfl, rfl⟩⟩
                     )
              · have HC2 := Lib.hid hc2
                rw [hA2] at e0
                clear hc2
                refine wp_held_mask (fun W => W.cell? ⟨lo, i * 4, none⟩ = some (.slice (some ⟨b1, 0, none⟩) L1 cp) ∧ W.cell? ⟨lo, t * 4, none⟩ = some (.slice (some ⟨b2, 0, none⟩) L2 cq)) [true, true, true, true, true, true, true, true, true, true, true, true, true, true, false, false, false, false] ?A1qas (by kernel_rfl) rfl (by kernel_rfl) (by repeat' (first | (with_reducible apply tame_then) | (with_reducible apply tame_block) | (with_reducible apply tame_scope) | exact tame_gives | exact tame_body (fun _ _ h => ⟨_, h.1⟩))) ⟨c0, e0⟩ ?headqas ?tailqas
                case headqas =>
                  intro W5 ⟨s0, s1⟩
                  simp only [pick]
                  go_wp2
                  exact taken
                case tailqas =>
                  simp only [pick, List.map_cons, List.map_nil, Bool.not_true, Bool.not_false]
                  refine tail_step ?_
                  refine wpList_apC rfl (.tmp 128) (.tmp 134) _ rfl 35 iE _ 2 16 Try.underlying33 hiE hzE0 hzE1 hzE2 rfl (by omega) w0.heap.size (A := some ⟨b2, 0, none⟩) (n := q) (f := entF lb) rfl (fun h => by cases h) (ap_some HC2.out) (ad := ⟨b1, q * 2, none⟩) (m := L1 - q) (c := cp - q) (g := fun j => entF la (q * 2 + j)) rfl (fun j hj => by rw [addr_off]; exact HP.out.1 (q * 2 + j) (by omega)) HP.out.2 (by omega) (fun j _ => ent_one la _) (entF N) HNW.out.2.1 HNW.out.2.2 L1 (by omega) (by unfold maxLen; omega) (by omega) HW.out.size ?_
                  skip
                  intro A2 c2 w3 ho hg ha
                  have ho' : Own w3 w0.heap.size 35 2 A2 N.length c2 (entF N) := by rw [HNW.out.1]; exact ho
                  have HL2 := Lib.hid (lg_row HW.out.drew ht ho' (grown_any hg _) (.inr ha))
                  have HL3 := Lib.hid (lg_head HL2.out ht)
                  have d0' : w3.cell? ⟨lo, i * 4, none⟩ = some (.slice (some ⟨b1, 0, none⟩) L1 cp) := (HL2.out.cell 4 rfl (j := i * 4) (by omega)).trans (by rw [lgF_0, HN.out.1, HN.out.2.2.2.1, hb1, HCE.out.1])
                  have d1' : w3.cell? ⟨lo, t * 4, none⟩ = some (.slice (some ⟨b2, 0, none⟩) L2 cq) := (HL2.out.cell 4 rfl (j := t * 4) (by omega)).trans (by rw [lgF_0, HN.out.2.1, HN.out.2.2.2.2, hA2, HCE.out.2])
                  have fz := HL2.out.frz 4 rfl (by omega) (t * 4)
                  rw [HNW.out.1] at HL3
                  clear ho ho' hg ha HL2 HW c0 e0
                  refine holds ⟨d0', d1'⟩ ?_
                  refine tail_step ?_
                  go_wp2
                  refine holds ⟨d0', d1'⟩ ?_
                  refine tail_step ?_
                  go_wp2
                  refine holds ⟨d0', d1'⟩ ?_
                  refine tail_last ?_
                  go_wp2
                  have HTL := Lib.hid (show ((lgS t N S).lg i).length = L1 by show (upd S.lg t N i).length = L1; rw [upd_ne _ _ hit, HN.out.1, HN.out.2.2.2.1])
                  have HTU := Lib.hid (show (lgS t N S).su i = S.su i ∧ (lgS t N S).su t = S.su t from ⟨rfl, rfl⟩)
                  have HTA := Lib.hid (show (lgA t A2 c2 a).hn i = n ∧ (lgA t A2 c2 a).nn i = n from ⟨HH.out.2.2.1, HH.out.2.2.2⟩)
                  have HTE := Lib.hid (tell_eq (i := i) (t := t) (S := S) (N := N) (L1 := L1) (by rw [HN.out.1, HN.out.2.1, HN.out.2.2.1]; exact HNN.out) (by rw [HN.out.1, HN.out.2.2.2.1]))
                  have HDT := Lib.hid (lgA_ok (i := t) (A' := A2) (c' := c2) (l := N) HD.out)
                  refine at_lay (F := fun W' => Code.wp _ _ _ _ W') (HL3.out.sim ⟨rfl, rfl, rfl, rfl⟩) ?_
                  intro W8 hW8
                  have HW := Lib.hid hW8
                  clear hW8 HL3
                  generalize lgS t N S = T at HTL HTU HTE HDT HW
                  generalize lgA t A2 c2 a = AT at HTA HDT HW
                  clear d0' d1' fz
                  obtain ⟨c0, -, c2, c3⟩ := lg_cells HW.out (i := i) hi
                  obtain ⟨bh, bn, hbh, hbn, -, -, hcell⟩ := lg_hn HW.out hi HTA.out.1 HTA.out.2
                  obtain ⟨x0, f0, -, -⟩ := hcell t ht
                  rw [HTL.out] at c0
                  rw [hbh, HTA.out.1] at c2
                  rw [hbn, HTA.out.2] at c3
                  have HBB := Lib.hid (And.intro hbh hbn)
                  clear hcell hbh hbn
                  refine wp_held_mask (fun W => W.cell? ⟨lo, i * 4, none⟩ = some (.slice (AT.A i) L1 (AT.c i)) ∧ W.cell? ⟨lo, i * 4 + 2, none⟩ = some (.slice (some ⟨bh, 0, none⟩) n (AT.hc i)) ∧ W.cell? ⟨lo, i * 4 + 3, none⟩ = some (.slice (some ⟨bn, 0, none⟩) n (AT.nc i))) [true, true, true, true, true, true, true, true, true, true, true, true, true, true, true, true, true, true, true, true, true, false, false, false] ?A1qasr (by kernel_rfl) rfl (by kernel_rfl) (by repeat' (first | (with_reducible apply tame_then) | (with_reducible apply tame_block) | (with_reducible apply tame_scope) | exact tame_gives | exact tame_body (fun _ _ h => ⟨_, h.1⟩))) ⟨c0, c2, c3⟩ ?headqasr ?tailqasr
                  case headqasr =>
                    intro W5 ⟨s0, s1, s2⟩
                    simp only [pick]
                    go_wp2
                    exact taken
                  case tailqasr =>
                    simp only [pick, List.map_cons, List.map_nil, Bool.not_true, Bool.not_false]
                    have HA1 := Lib.hid (lg_haset (x := L1) HW.out.drew hi ht HBB.out.1 HTA.out.1)
                    refine tail_step ?_
                    go_wp2
                    refine at_lay (F := fun W' => Holds _ _ _ _ _ _ _ W') HA1.out ?_
                    intro W6 hW6
                    have HA := Lib.hid hW6
                    clear hW6 HA1 HW c0 c2 c3 x0 f0
                    obtain ⟨c0a, -, c2, c3⟩ := lg_cells HA.out (i := i) hi
                    obtain ⟨bh', bn', hbh, hbn, -, -, hcell⟩ := lg_hn HA.out hi HTA.out.1 HTA.out.2
                    obtain ⟨-, -, x1, f1⟩ := hcell t ht
                    have c0 : W6.cell? ⟨lo, i * 4, none⟩ = some (.slice (AT.A i) L1 (AT.c i)) := c0a.trans (by rw [← HTL.out]; rfl)
                    clear c0a
                    rw [HBB.out.1, HTA.out.1] at c2
                    rw [HBB.out.2, HTA.out.2] at c3
                    obtain rfl : bn = bn' := by
                      have := HBB.out.2.symm.trans hbn
                      injection this with this; injection this
                    clear hcell hbh hbn
                    refine holds ⟨c0, c2, c3⟩ ?_
                    refine tail_step ?_
                    go_wp2
                    refine holds ⟨c0, c2, c3⟩ ?_
                    refine tail_last ?_
                    have HA2 := Lib.hid (lg_nxset (x := L1) HA.out hi ht HBB.out.2 HTA.out.2)
                    go_wp2
                    refine at_lay (F := fun W' => Code.wp _ _ _ _ W') (HA2.out.sim ⟨rfl, rfl, rfl, rfl⟩) ?_
                    intro W7 hW7
                    have HF := Lib.hid hW7
                    clear hW7 HA2 HA c0 c2 c3 x1 f1
                    obtain ⟨c0a, c1a, -, -⟩ := lg_cells HF.out (i := i) hi
                    obtain ⟨-, e1a, -, -⟩ := lg_cells HF.out (i := t) ht
                    have c0 : W7.cell? ⟨lo, i * 4, none⟩ = some (.slice (AT.A i) L1 (AT.c i)) := c0a.trans (by rw [← HTL.out]; rfl)
                    have c1 : W7.cell? ⟨lo, i * 4 + 1, none⟩ = some (.int .i64 (T.su i : Nat)) := c1a
                    have e1 : W7.cell? ⟨lo, t * 4 + 1, none⟩ = some (.int .i64 (T.su t : Nat)) := e1a
                    clear c0a c1a e1a
                    have fz := lg_frz HF.out (by omega) (t * 4 + 1)
                    have HSS := Lib.hid (fun x => lg_suset (x := x) HF.out.drew ht)
                    rw [HTU.out.1] at c1
                    rw [HTU.out.2] at e1
                    have h9 := HR5.out
                    rw [HTE.out] at h9
                    have HR6 := Lib.hid h9
                    clear HR5 h9 HTE HTU
                    generalize S.su i = p1 at *
                    generalize S.su t = p2 at *
                    clear HBB HTL HH HNN HNW
                    rcases Nat.lt_or_ge L1 p1 with hm1 | hm1
                    · rcases Nat.lt_or_ge p2 L1 with hm2 | hm2
                      · refine wp_text 18 (by kernel_rfl) (by kernel_rfl) (by kernel_rfl) (by repeat' (first | (with_reducible apply tame_then) | (with_reducible apply tame_block) | (with_reducible apply tame_scope) | exact tame_gives | exact tame_body (fun _ _ h => ⟨_, h.1⟩))) ?_
                        simp only [List.take_succ_cons, List.take_zero, List.drop_succ_cons, List.drop_zero]
                        go_wp2
                        refine headed ?_
                        go_wp2
                        go_ret
                        have e9 := HR6.out
                        rw [show max p2 (min p1 L1) = L1 by omega] at e9
                        subst e9
                        exact ⟨rfl, AT, HDT.out, (HSS.out L1).sim ⟨rfl, rfl, rfl, rfl⟩⟩
                      · refine wp_text 18 (by kernel_rfl) (by kernel_rfl) (by kernel_rfl) (by repeat' (first | (with_reducible apply tame_then) | (with_reducible apply tame_block) | (with_reducible apply tame_scope) | exact tame_gives | exact tame_body (fun _ _ h => ⟨_, h.1⟩))) ?_
                        simp only [List.take_succ_cons, List.take_zero, List.drop_succ_cons, List.drop_zero]
                        go_wp2
                        refine headed ?_
                        go_wp2
                        go_ret
                        have e9 := HR6.out
                        rw [show max p2 (min p1 L1) = p2 by omega] at e9
                        subst e9
                        exact ⟨rfl, AT, HDT.out, (HSS.out p2).sim ⟨rfl, rfl, rfl, rfl⟩⟩
                    · rcases Nat.lt_or_ge p2 p1 with hm2 | hm2
                      · refine wp_text 18 (by kernel_rfl) (by kernel_rfl) (by kernel_rfl) (by repeat' (first | (with_reducible apply tame_then) | (with_reducible apply tame_block) | (with_reducible apply tame_scope) | exact tame_gives | exact tame_body (fun _ _ h => ⟨_, h.1⟩))) ?_
                        simp only [List.take_succ_cons, List.take_zero, List.drop_succ_cons, List.drop_zero]
                        go_wp2
                        refine headed ?_
                        go_wp2
                        go_ret
                        have e9 := HR6.out
                        rw [show max p2 (min p1 L1) = p1 by omega] at e9
                        subst e9
                        exact ⟨rfl, AT, HDT.out, (HSS.out p1).sim ⟨rfl, rfl, rfl, rfl⟩⟩
                      · refine wp_text 18 (by kernel_rfl) (by kernel_rfl) (by kernel_rfl) (by repeat' (first | (with_reducible apply tame_then) | (with_reducible apply tame_block) | (with_reducible apply tame_scope) | exact tame_gives | exact tame_body (fun _ _ h => ⟨_, h.1⟩))) ?_
                        simp only [List.take_succ_cons, List.take_zero, List.drop_succ_cons, List.drop_zero]
                        go_wp2
                        refine headed ?_
                        go_wp2
                        go_ret
                        have e9 := HR6.out
                        rw [show max p2 (min p1 L1) = p2 by omega] at e9
                        subst e9
                        exact ⟨rfl, AT, HDT.out, (HSS.out p2).sim ⟨rfl, rfl, rfl, rfl⟩⟩
            · cases f2
              · have HEX := Lib.hid (alike_stop (a := la) (b := lb) (f := L1 - q) (k := q) (.inr (.inr (fun h => by
                  have h2 := hf2
                  rw [(HE.out.1 h).2, beq_self_eq_true] at h2; cases h2))))
                go_wp2
                refine wp_text_all (by kernel_rfl) (by kernel_rfl) (by kernel_rfl) (by repeat' (first | (with_reducible apply tame_then) | (with_reducible apply tame_block) | (with_reducible apply tame_scope) | exact tame_gives | exact tame_body (fun _ _ h => ⟨_, h.1⟩))) ?_
                go_wp2
                refine headed ?_
                go_wp2
                have HAQ : Hid (alike la lb (L1 - (m + 1)) (m + 1) = q) := Lib.hid (HAL.out.symm.trans HEX.out)
                refine at_lay (F := fun W' => Code.wp _ _ _ _ W') (HQ.out.sim ⟨rfl, rfl, rfl, rfl⟩) ?_
                intro W hW
                have HW := Lib.hid hW
                clear hW HQ HAL HEX c0 e0
                obtain ⟨o1, -, -⟩ := lg_own HW.out hi
                obtain ⟨o2, -, -⟩ := lg_own HW.out ht
                obtain ⟨c0, -, -, -⟩ := lg_cells HW.out (i := i) hi
                obtain ⟨e0, -, -, -⟩ := lg_cells HW.out (i := t) ht
                rw [HN.out.1, HN.out.2.2.2.1] at o1 c0
                rw [HN.out.2.1, HN.out.2.2.2.2] at o2 e0
                obtain ⟨b1, hb1, -, hb1l, p1, -⟩ := o1.pos (by omega)
                obtain ⟨hcp1, hcp2⟩ := o1.le
                obtain ⟨hcq1, hcq2⟩ := o2.le
                rw [hb1] at c0
                have h2A : (a.A t = none ∧ q = 0 ∧ L2 = 0) ∨ ∃ b2, a.A t = some ⟨b2, 0, none⟩ ∧ ∀ j, j < q * 2 → W.cell? ⟨b2, j, none⟩ = some (entF lb j) := by
                  rcases o2 with ⟨x1, x2, -⟩ | ⟨b2, cur, x1, -, x3, -, -, -, x7⟩
                  · exact .inl ⟨x1, by omega, x2⟩
                  · refine .inr ⟨b2, x1, fun j hj => ?_⟩
                    rw [cell_of_row _ _ _ _ _ _ x3]
                    exact x7 j (by omega)
                have HNW := Lib.hid (send_new (la := la) (lb := lb) (k := m + 1) (q := q) (by rw [HN.out.2.2.2.1]; exact HAQ.out) (by rw [HN.out.2.2.2.1]; exact hlt1) (by rw [HN.out.2.2.2.2]; exact hq2))
                obtain ⟨N, hN⟩ : ∃ N, sendLog la lb (m + 1) = N := ⟨_, rfl⟩
                rw [hN, HN.out.2.2.2.1] at HNW
                have HNN := Lib.hid hN
                generalize hcpe : a.c i = cp at c0 hcp1 hcp2
                generalize hcqe : a.c t = cq at e0 hcq1 hcq2
                unfold maxLen at hcp2 hcq2
                have HP := Lib.hid (And.intro p1 hb1l)
                have HCE := Lib.hid (And.intro hcpe hcqe)
                have hct : ¬ cp = q := by omega
                clear o1 o2 p1 HAQ hN hcpe hcqe
                rcases h2A with ⟨hA2, rfl, hz⟩ | ⟨b2, hA2, hc2⟩
                · first
                  | (exfalso; omega)
                  | (rw [hA2] at e0
                     refine wp_held_mask (fun W => W.cell? ⟨lo, i * 4, none⟩ = some (.slice (some ⟨b1, 0, none⟩) L1 cp) ∧ W.cell? ⟨lo, t * 4, none⟩ = some (.slice none L2 cq)) [true, true, true, true, true, true, true, true, true, true, true, true, true, true, false, false, false, false] ?A1qbn (by kernel_rfl) rfl (by kernel_rfl) (by repeat' (first | (with_reducible apply tame_then) | (with_reducible apply tame_block) | (with_reducible apply tame_scope) | exact tame_gives | exact tame_body (fun _ _ h => ⟨_, h.1⟩))) ⟨c0, e0⟩ ?headqbn ?tailqbn
                     case headqbn =>
                       intro W5 ⟨s0, s1⟩
                       simp only [pick]
                       go_wp2
                       exact taken
                     case tailqbn =>
                       simp only [pick, List.map_cons, List.map_nil, Bool.not_true, Bool.not_false]
                       refine tail_step ?_
                       refine wpList_apC rfl (.tmp 128) (.tmp 134) _ rfl 35 iE _ 2 16 Try.underlying33 hiE hzE0 hzE1 hzE2 rfl (by omega) w0.heap.size (A := none) (n := 0) (f := entF lb) rfl (fun _ => rfl) (fun ad e => by cases e) (ad := ⟨b1, 0 * 2, none⟩) (m := L1 - 0) (c := cp - 0) (g := fun j => entF la (0 * 2 + j)) rfl (fun j hj => by rw [addr_off]; exact HP.out.1 (0 * 2 + j) (by omega)) HP.out.2 (by omega) (fun j _ => ent_one la _) (entF N) HNW.out.2.1 HNW.out.2.2 L1 (by omega) (by unfold maxLen; omega) (by omega) HW.out.size ?_
                       skip
                       intro A2 c2 w3 ho hg ha
                       have ho' : Own w3 w0.heap.size 35 2 A2 N.length c2 (entF N) := by rw [HNW.out.1]; exact ho
                       have HL2 := Lib.hid (lg_row HW.out.drew ht ho' (grown_any hg _) (.inr ha))
                       have HL3 := Lib.hid (lg_head HL2.out ht)
                       have d0' : w3.cell? ⟨lo, i * 4, none⟩ = some (.slice (some ⟨b1, 0, none⟩) L1 cp) := (HL2.out.cell 4 rfl (j := i * 4) (by omega)).trans (by rw [lgF_0, HN.out.1, HN.out.2.2.2.1, hb1, HCE.out.1])
                       have d1' : w3.cell? ⟨lo, t * 4, none⟩ = some (.slice (none) L2 cq) := (HL2.out.cell 4 rfl (j := t * 4) (by omega)).trans (by rw [lgF_0, HN.out.2.1, HN.out.2.2.2.2, hA2, HCE.out.2])
                       have fz := HL2.out.frz 4 rfl (by omega) (t * 4)
                       rw [HNW.out.1] at HL3
                       clear ho ho' hg ha HL2 HW c0 e0
                       refine holds ⟨d0', d1'⟩ ?_
                       refine tail_step ?_
                       go_wp2
                       refine holds ⟨d0', d1'⟩ ?_
                       refine tail_step ?_
                       go_wp2
                       refine holds ⟨d0', d1'⟩ ?_
                       refine tail_last ?_
                       go_wp2
                       have HTL := Lib.hid (show ((lgS t N S).lg i).length = L1 by show (upd S.lg t N i).length = L1; rw [upd_ne _ _ hit, HN.out.1, HN.out.2.2.2.1])
                       have HTU := Lib.hid (show (lgS t N S).su i = S.su i ∧ (lgS t N S).su t = S.su t from ⟨rfl, rfl⟩)
                       have HTA := Lib.hid (show (lgA t A2 c2 a).hn i = n ∧ (lgA t A2 c2 a).nn i = n from ⟨HH.out.2.2.1, HH.out.2.2.2⟩)
                       have HTE := Lib.hid (tell_eq (i := i) (t := t) (S := S) (N := N) (L1 := L1) (by rw [HN.out.1, HN.out.2.1, HN.out.2.2.1]; exact HNN.out) (by rw [HN.out.1, HN.out.2.2.2.1]))
                       have HDT := Lib.hid (lgA_ok (i := t) (A' := A2) (c' := c2) (l := N) HD.out)
                       refine at_lay (F := fun W' => Code.wp _ _ _ _ W') (HL3.out.sim ⟨rfl, rfl, rfl, rfl⟩) ?_
                       intro W8 hW8
                       have HW := Lib.hid hW8
                       clear hW8 HL3
                       generalize lgS t N S = T at HTL HTU HTE HDT HW
                       generalize lgA t A2 c2 a = AT at HTA HDT HW
                       clear d0' d1' fz
                       obtain ⟨c0, -, c2, c3⟩ := lg_cells HW.out (i := i) hi
                       obtain ⟨bh, bn, hbh, hbn, -, -, hcell⟩ := lg_hn HW.out hi HTA.out.1 HTA.out.2
                       obtain ⟨x0, f0, -, -⟩ := hcell t ht
                       rw [HTL.out] at c0
                       rw [hbh, HTA.out.1] at c2
                       rw [hbn, HTA.out.2] at c3
                       have HBB := Lib.hid (And.intro hbh hbn)
                       clear hcell hbh hbn
                       refine wp_held_mask (fun W => W.cell? ⟨lo, i * 4, none⟩ = some (.slice (AT.A i) L1 (AT.c i)) ∧ W.cell? ⟨lo, i * 4 + 2, none⟩ = some (.slice (some ⟨bh, 0, none⟩) n (AT.hc i)) ∧ W.cell? ⟨lo, i * 4 + 3, none⟩ = some (.slice (some ⟨bn, 0, none⟩) n (AT.nc i))) [true, true, true, true, true, true, true, true, true, true, true, true, true, true, true, true, true, true, true, true, true, false, false, false] ?A1qbnr (by kernel_rfl) rfl (by kernel_rfl) (by repeat' (first | (with_reducible apply tame_then) | (with_reducible apply tame_block) | (with_reducible apply tame_scope) | exact tame_gives | exact tame_body (fun _ _ h => ⟨_, h.1⟩))) ⟨c0, c2, c3⟩ ?headqbnr ?tailqbnr
                       case headqbnr =>
                         intro W5 ⟨s0, s1, s2⟩
                         simp only [pick]
                         go_wp2
                         exact taken
                       case tailqbnr =>
                         simp only [pick, List.map_cons, List.map_nil, Bool.not_true, Bool.not_false]
                         have HA1 := Lib.hid (lg_haset (x := L1) HW.out.drew hi ht HBB.out.1 HTA.out.1)
                         refine tail_step ?_
                         go_wp2
                         refine at_lay (F := fun W' => Holds _ _ _ _ _ _ _ W') HA1.out ?_
                         intro W6 hW6
                         have HA := Lib.hid hW6
                         clear hW6 HA1 HW c0 c2 c3 x0 f0
                         obtain ⟨c0a, -, c2, c3⟩ := lg_cells HA.out (i := i) hi
                         obtain ⟨bh', bn', hbh, hbn, -, -, hcell⟩ := lg_hn HA.out hi HTA.out.1 HTA.out.2
                         obtain ⟨-, -, x1, f1⟩ := hcell t ht
                         have c0 : W6.cell? ⟨lo, i * 4, none⟩ = some (.slice (AT.A i) L1 (AT.c i)) := c0a.trans (by rw [← HTL.out]; rfl)
                         clear c0a
                         rw [HBB.out.1, HTA.out.1] at c2
                         rw [HBB.out.2, HTA.out.2] at c3
                         obtain rfl : bn = bn' := by
                           have := HBB.out.2.symm.trans hbn
                           injection this with this; injection this
                         clear hcell hbh hbn
                         refine holds ⟨c0, c2, c3⟩ ?_
                         refine tail_step ?_
                         go_wp2
                         refine holds ⟨c0, c2, c3⟩ ?_
                         refine tail_last ?_
                         have HA2 := Lib.hid (lg_nxset (x := L1) HA.out hi ht HBB.out.2 HTA.out.2)
                         go_wp2
                         refine at_lay (F := fun W' => Code.wp _ _ _ _ W') (HA2.out.sim ⟨rfl, rfl, rfl, rfl⟩) ?_
                         intro W7 hW7
                         have HF := Lib.hid hW7
                         clear hW7 HA2 HA c0 c2 c3 x1 f1
                         obtain ⟨c0a, c1a, -, -⟩ := lg_cells HF.out (i := i) hi
                         obtain ⟨-, e1a, -, -⟩ := lg_cells HF.out (i := t) ht
                         have c0 : W7.cell? ⟨lo, i * 4, none⟩ = some (.slice (AT.A i) L1 (AT.c i)) := c0a.trans (by rw [← HTL.out]; rfl)
                         have c1 : W7.cell? ⟨lo, i * 4 + 1, none⟩ = some (.int .i64 (T.su i : Nat)) := c1a
                         have e1 : W7.cell? ⟨lo, t * 4 + 1, none⟩ = some (.int .i64 (T.su t : Nat)) := e1a
                         clear c0a c1a e1a
                         have fz := lg_frz HF.out (by omega) (t * 4 + 1)
                         have HSS := Lib.hid (fun x => lg_suset (x := x) HF.out.drew ht)
                         rw [HTU.out.1] at c1
                         rw [HTU.out.2] at e1
                         have h9 := HR5.out
                         rw [HTE.out] at h9
                         have HR6 := Lib.hid h9
                         clear HR5 h9 HTE HTU
                         generalize S.su i = p1 at *
                         generalize S.su t = p2 at *
                         clear HBB HTL HH HNN HNW
                         rcases Nat.lt_or_ge L1 p1 with hm1 | hm1
                         · rcases Nat.lt_or_ge p2 L1 with hm2 | hm2
                           · refine wp_text 18 (by kernel_rfl) (by kernel_rfl) (by kernel_rfl) (by repeat' (first | (with_reducible apply tame_then) | (with_reducible apply tame_block) | (with_reducible apply tame_scope) | exact tame_gives | exact tame_body (fun _ _ h => ⟨_, h.1⟩))) ?_
                             simp only [List.take_succ_cons, List.take_zero, List.drop_succ_cons, List.drop_zero]
                             go_wp2
                             refine headed ?_
                             go_wp2
                             go_ret
                             have e9 := HR6.out
                             rw [show max p2 (min p1 L1) = L1 by omega] at e9
                             subst e9
                             exact ⟨rfl, AT, HDT.out, (HSS.out L1).sim ⟨rfl, rfl, rfl, rfl⟩⟩
                           · refine wp_text 18 (by kernel_rfl) (by kernel_rfl) (by kernel_rfl) (by repeat' (first | (with_reducible apply tame_then) | (with_reducible apply tame_block) | (with_reducible apply tame_scope) | exact tame_gives | exact tame_body (fun _ _ h => ⟨_, h.1⟩))) ?_
                             simp only [List.take_succ_cons, List.take_zero, List.drop_succ_cons, List.drop_zero]
                             go_wp2
                             refine headed ?_
                             go_wp2
                             go_ret
                             have e9 := HR6.out
                             rw [show max p2 (min p1 L1) = p2 by omega] at e9
                             subst e9
                             exact ⟨rfl, AT, HDT.out, (HSS.out p2).sim ⟨rfl, rfl, rfl, rfl⟩⟩
                         · rcases Nat.lt_or_ge p2 p1 with hm2 | hm2
                           · refine wp_text 18 (by kernel_rfl) (by kernel_rfl) (by kernel_rfl) (by repeat' (first | (with_reducible apply tame_then) | (with_reducible apply tame_block) | (with_reducible apply tame_scope) | exact tame_gives | exact tame_body (fun _ _ h => ⟨_, h.1⟩))) ?_
                             simp only [List.take_succ_cons, List.take_zero, List.drop_succ_cons, List.drop_zero]
                             go_wp2
                             refine headed ?_
                             go_wp2
                             go_ret
                             have e9 := HR6.out
                             rw [show max p2 (min p1 L1) = p1 by omega] at e9
                             subst e9
                             exact ⟨rfl, AT, HDT.out, (HSS.out p1).sim ⟨rfl, rfl, rfl, rfl⟩⟩
                           · refine wp_text 18 (by kernel_rfl) (by kernel_rfl) (by kernel_rfl) (by repeat' (first | (with_reducible apply tame_then) | (with_reducible apply tame_block) | (with_reducible apply tame_scope) | exact tame_gives | exact tame_body (fun _ _ h => ⟨_, h.1⟩))) ?_
                             simp only [List.take_succ_cons, List.take_zero, List.drop_succ_cons, List.drop_zero]
                             go_wp2
                             refine headed ?_
                             go_wp2
                             go_ret
                             have e9 := HR6.out
                             rw [show max p2 (min p1 L1) = p2 by omega] at e9
                             subst e9
                             exact ⟨rfl, AT, HDT.out, (HSS.out p2).sim ⟨rfl, rfl, rfl, rfl⟩⟩
                       )
                · have HC2 := Lib.hid hc2
                  rw [hA2] at e0
                  clear hc2
                  refine wp_held_mask (fun W => W.cell? ⟨lo, i * 4, none⟩ = some (.slice (some ⟨b1, 0, none⟩) L1 cp) ∧ W.cell? ⟨lo, t * 4, none⟩ = some (.slice (some ⟨b2, 0, none⟩) L2 cq)) [true, true, true, true, true, true, true, true, true, true, true, true, true, true, false, false, false, false] ?A1qbs (by kernel_rfl) rfl (by kernel_rfl) (by repeat' (first | (with_reducible apply tame_then) | (with_reducible apply tame_block) | (with_reducible apply tame_scope) | exact tame_gives | exact tame_body (fun _ _ h => ⟨_, h.1⟩))) ⟨c0, e0⟩ ?headqbs ?tailqbs
                  case headqbs =>
                    intro W5 ⟨s0, s1⟩
                    simp only [pick]
                    go_wp2
                    exact taken
                  case tailqbs =>
                    simp only [pick, List.map_cons, List.map_nil, Bool.not_true, Bool.not_false]
                    refine tail_step ?_
                    refine wpList_apC rfl (.tmp 128) (.tmp 134) _ rfl 35 iE _ 2 16 Try.underlying33 hiE hzE0 hzE1 hzE2 rfl (by omega) w0.heap.size (A := some ⟨b2, 0, none⟩) (n := q) (f := entF lb) rfl (fun h => by cases h) (ap_some HC2.out) (ad := ⟨b1, q * 2, none⟩) (m := L1 - q) (c := cp - q) (g := fun j => entF la (q * 2 + j)) rfl (fun j hj => by rw [addr_off]; exact HP.out.1 (q * 2 + j) (by omega)) HP.out.2 (by omega) (fun j _ => ent_one la _) (entF N) HNW.out.2.1 HNW.out.2.2 L1 (by omega) (by unfold maxLen; omega) (by omega) HW.out.size ?_
                    skip
                    intro A2 c2 w3 ho hg ha
                    have ho' : Own w3 w0.heap.size 35 2 A2 N.length c2 (entF N) := by rw [HNW.out.1]; exact ho
                    have HL2 := Lib.hid (lg_row HW.out.drew ht ho' (grown_any hg _) (.inr ha))
                    have HL3 := Lib.hid (lg_head HL2.out ht)
                    have d0' : w3.cell? ⟨lo, i * 4, none⟩ = some (.slice (some ⟨b1, 0, none⟩) L1 cp) := (HL2.out.cell 4 rfl (j := i * 4) (by omega)).trans (by rw [lgF_0, HN.out.1, HN.out.2.2.2.1, hb1, HCE.out.1])
                    have d1' : w3.cell? ⟨lo, t * 4, none⟩ = some (.slice (some ⟨b2, 0, none⟩) L2 cq) := (HL2.out.cell 4 rfl (j := t * 4) (by omega)).trans (by rw [lgF_0, HN.out.2.1, HN.out.2.2.2.2, hA2, HCE.out.2])
                    have fz := HL2.out.frz 4 rfl (by omega) (t * 4)
                    rw [HNW.out.1] at HL3
                    clear ho ho' hg ha HL2 HW c0 e0
                    refine holds ⟨d0', d1'⟩ ?_
                    refine tail_step ?_
                    go_wp2
                    refine holds ⟨d0', d1'⟩ ?_
                    refine tail_step ?_
                    go_wp2
                    refine holds ⟨d0', d1'⟩ ?_
                    refine tail_last ?_
                    go_wp2
                    have HTL := Lib.hid (show ((lgS t N S).lg i).length = L1 by show (upd S.lg t N i).length = L1; rw [upd_ne _ _ hit, HN.out.1, HN.out.2.2.2.1])
                    have HTU := Lib.hid (show (lgS t N S).su i = S.su i ∧ (lgS t N S).su t = S.su t from ⟨rfl, rfl⟩)
                    have HTA := Lib.hid (show (lgA t A2 c2 a).hn i = n ∧ (lgA t A2 c2 a).nn i = n from ⟨HH.out.2.2.1, HH.out.2.2.2⟩)
                    have HTE := Lib.hid (tell_eq (i := i) (t := t) (S := S) (N := N) (L1 := L1) (by rw [HN.out.1, HN.out.2.1, HN.out.2.2.1]; exact HNN.out) (by rw [HN.out.1, HN.out.2.2.2.1]))
                    have HDT := Lib.hid (lgA_ok (i := t) (A' := A2) (c' := c2) (l := N) HD.out)
                    refine at_lay (F := fun W' => Code.wp _ _ _ _ W') (HL3.out.sim ⟨rfl, rfl, rfl, rfl⟩) ?_
                    intro W8 hW8
                    have HW := Lib.hid hW8
                    clear hW8 HL3
                    generalize lgS t N S = T at HTL HTU HTE HDT HW
                    generalize lgA t A2 c2 a = AT at HTA HDT HW
                    clear d0' d1' fz
                    obtain ⟨c0, -, c2, c3⟩ := lg_cells HW.out (i := i) hi
                    obtain ⟨bh, bn, hbh, hbn, -, -, hcell⟩ := lg_hn HW.out hi HTA.out.1 HTA.out.2
                    obtain ⟨x0, f0, -, -⟩ := hcell t ht
                    rw [HTL.out] at c0
                    rw [hbh, HTA.out.1] at c2
                    rw [hbn, HTA.out.2] at c3
                    have HBB := Lib.hid (And.intro hbh hbn)
                    clear hcell hbh hbn
                    refine wp_held_mask (fun W => W.cell? ⟨lo, i * 4, none⟩ = some (.slice (AT.A i) L1 (AT.c i)) ∧ W.cell? ⟨lo, i * 4 + 2, none⟩ = some (.slice (some ⟨bh, 0, none⟩) n (AT.hc i)) ∧ W.cell? ⟨lo, i * 4 + 3, none⟩ = some (.slice (some ⟨bn, 0, none⟩) n (AT.nc i))) [true, true, true, true, true, true, true, true, true, true, true, true, true, true, true, true, true, true, true, true, true, false, false, false] ?A1qbsr (by kernel_rfl) rfl (by kernel_rfl) (by repeat' (first | (with_reducible apply tame_then) | (with_reducible apply tame_block) | (with_reducible apply tame_scope) | exact tame_gives | exact tame_body (fun _ _ h => ⟨_, h.1⟩))) ⟨c0, c2, c3⟩ ?headqbsr ?tailqbsr
                    case headqbsr =>
                      intro W5 ⟨s0, s1, s2⟩
                      simp only [pick]
                      go_wp2
                      exact taken
                    case tailqbsr =>
                      simp only [pick, List.map_cons, List.map_nil, Bool.not_true, Bool.not_false]
                      have HA1 := Lib.hid (lg_haset (x := L1) HW.out.drew hi ht HBB.out.1 HTA.out.1)
                      refine tail_step ?_
                      go_wp2
                      refine at_lay (F := fun W' => Holds _ _ _ _ _ _ _ W') HA1.out ?_
                      intro W6 hW6
                      have HA := Lib.hid hW6
                      clear hW6 HA1 HW c0 c2 c3 x0 f0
                      obtain ⟨c0a, -, c2, c3⟩ := lg_cells HA.out (i := i) hi
                      obtain ⟨bh', bn', hbh, hbn, -, -, hcell⟩ := lg_hn HA.out hi HTA.out.1 HTA.out.2
                      obtain ⟨-, -, x1, f1⟩ := hcell t ht
                      have c0 : W6.cell? ⟨lo, i * 4, none⟩ = some (.slice (AT.A i) L1 (AT.c i)) := c0a.trans (by rw [← HTL.out]; rfl)
                      clear c0a
                      rw [HBB.out.1, HTA.out.1] at c2
                      rw [HBB.out.2, HTA.out.2] at c3
                      obtain rfl : bn = bn' := by
                        have := HBB.out.2.symm.trans hbn
                        injection this with this; injection this
                      clear hcell hbh hbn
                      refine holds ⟨c0, c2, c3⟩ ?_
                      refine tail_step ?_
                      go_wp2
                      refine holds ⟨c0, c2, c3⟩ ?_
                      refine tail_last ?_
                      have HA2 := Lib.hid (lg_nxset (x := L1) HA.out hi ht HBB.out.2 HTA.out.2)
                      go_wp2
                      refine at_lay (F := fun W' => Code.wp _ _ _ _ W') (HA2.out.sim ⟨rfl, rfl, rfl, rfl⟩) ?_
                      intro W7 hW7
                      have HF := Lib.hid hW7
                      clear hW7 HA2 HA c0 c2 c3 x1 f1
                      obtain ⟨c0a, c1a, -, -⟩ := lg_cells HF.out (i := i) hi
                      obtain ⟨-, e1a, -, -⟩ := lg_cells HF.out (i := t) ht
                      have c0 : W7.cell? ⟨lo, i * 4, none⟩ = some (.slice (AT.A i) L1 (AT.c i)) := c0a.trans (by rw [← HTL.out]; rfl)
                      have c1 : W7.cell? ⟨lo, i * 4 + 1, none⟩ = some (.int .i64 (T.su i : Nat)) := c1a
                      have e1 : W7.cell? ⟨lo, t * 4 + 1, none⟩ = some (.int .i64 (T.su t : Nat)) := e1a
                      clear c0a c1a e1a
                      have fz := lg_frz HF.out (by omega) (t * 4 + 1)
                      have HSS := Lib.hid (fun x => lg_suset (x := x) HF.out.drew ht)
                      rw [HTU.out.1] at c1
                      rw [HTU.out.2] at e1
                      have h9 := HR5.out
                      rw [HTE.out] at h9
                      have HR6 := Lib.hid h9
                      clear HR5 h9 HTE HTU
                      generalize S.su i = p1 at *
                      generalize S.su t = p2 at *
                      clear HBB HTL HH HNN HNW
                      rcases Nat.lt_or_ge L1 p1 with hm1 | hm1
                      · rcases Nat.lt_or_ge p2 L1 with hm2 | hm2
                        · refine wp_text 18 (by kernel_rfl) (by kernel_rfl) (by kernel_rfl) (by repeat' (first | (with_reducible apply tame_then) | (with_reducible apply tame_block) | (with_reducible apply tame_scope) | exact tame_gives | exact tame_body (fun _ _ h => ⟨_, h.1⟩))) ?_
                          simp only [List.take_succ_cons, List.take_zero, List.drop_succ_cons, List.drop_zero]
                          go_wp2
                          refine headed ?_
                          go_wp2
                          go_ret
                          have e9 := HR6.out
                          rw [show max p2 (min p1 L1) = L1 by omega] at e9
                          subst e9
                          exact ⟨rfl, AT, HDT.out, (HSS.out L1).sim ⟨rfl, rfl, rfl, rfl⟩⟩
                        · refine wp_text 18 (by kernel_rfl) (by kernel_rfl) (by kernel_rfl) (by repeat' (first | (with_reducible apply tame_then) | (with_reducible apply tame_block) | (with_reducible apply tame_scope) | exact tame_gives | exact tame_body (fun _ _ h => ⟨_, h.1⟩))) ?_
                          simp only [List.take_succ_cons, List.take_zero, List.drop_succ_cons, List.drop_zero]
                          go_wp2
                          refine headed ?_
                          go_wp2
                          go_ret
                          have e9 := HR6.out
                          rw [show max p2 (min p1 L1) = p2 by omega] at e9
                          subst e9
                          exact ⟨rfl, AT, HDT.out, (HSS.out p2).sim ⟨rfl, rfl, rfl, rfl⟩⟩
                      · rcases Nat.lt_or_ge p2 p1 with hm2 | hm2
                        · refine wp_text 18 (by kernel_rfl) (by kernel_rfl) (by kernel_rfl) (by repeat' (first | (with_reducible apply tame_then) | (with_reducible apply tame_block) | (with_reducible apply tame_scope) | exact tame_gives | exact tame_body (fun _ _ h => ⟨_, h.1⟩))) ?_
                          simp only [List.take_succ_cons, List.take_zero, List.drop_succ_cons, List.drop_zero]
                          go_wp2
                          refine headed ?_
                          go_wp2
                          go_ret
                          have e9 := HR6.out
                          rw [show max p2 (min p1 L1) = p1 by omega] at e9
                          subst e9
                          exact ⟨rfl, AT, HDT.out, (HSS.out p1).sim ⟨rfl, rfl, rfl, rfl⟩⟩
                        · refine wp_text 18 (by kernel_rfl) (by kernel_rfl) (by kernel_rfl) (by repeat' (first | (with_reducible apply tame_then) | (with_reducible apply tame_block) | (with_reducible apply tame_scope) | exact tame_gives | exact tame_body (fun _ _ h => ⟨_, h.1⟩))) ?_
                          simp only [List.take_succ_cons, List.take_zero, List.drop_succ_cons, List.drop_zero]
                          go_wp2
                          refine headed ?_
                          go_wp2
                          go_ret
                          have e9 := HR6.out
                          rw [show max p2 (min p1 L1) = p2 by omega] at e9
                          subst e9
                          exact ⟨rfl, AT, HDT.out, (HSS.out p2).sim ⟨rfl, rfl, rfl, rfl⟩⟩
              · have HGO := Lib.hid (alike_go (a := la) (b := lb) (L := L1) (k := q) HN.out.2.2.2.1 hlt1 (by rw [HN.out.2.2.2.2]; exact hlt2) (HE.out.2 ⟨by simpa using HF.out, by simpa using hf2⟩))
                go_wp2
                refine wp_text_all (by kernel_rfl) (by kernel_rfl) (by kernel_rfl) (by repeat' (first | (with_reducible apply tame_then) | (with_reducible apply tame_block) | (with_reducible apply tame_scope) | exact tame_gives | exact tame_body (fun _ _ h => ⟨_, h.1⟩))) ?_
                go_wp2
                refine headed ?_
                go_wp2
                go_roundw
                case rel => exact ⟨q + 1, by omega, by omega, by omega, by go_num, Lib.hid (HGO.out.symm.trans HAL.out), HQ.out.sim ⟨rfl, rfl, rfl, rfl⟩⟩
                case measure => simp [intOf]; omega
          · have HEX := Lib.hid (alike_stop (a := la) (b := lb) (f := L1 - q) (k := q) (.inr (.inl (by rw [HN.out.2.2.2.2]; exact hlt2))))
            go_wp2
            refine wp_text_all (by kernel_rfl) (by kernel_rfl) (by kernel_rfl) (by repeat' (first | (with_reducible apply tame_then) | (with_reducible apply tame_block) | (with_reducible apply tame_scope) | exact tame_gives | exact tame_body (fun _ _ h => ⟨_, h.1⟩))) ?_
            go_wp2
            refine headed ?_
            go_wp2
            have HAQ : Hid (alike la lb (L1 - (m + 1)) (m + 1) = q) := Lib.hid (HAL.out.symm.trans HEX.out)
            refine at_lay (F := fun W' => Code.wp _ _ _ _ W') (HQ.out.sim ⟨rfl, rfl, rfl, rfl⟩) ?_
            intro W hW
            have HW := Lib.hid hW
            clear hW HQ HAL HEX c0 e0
            obtain ⟨o1, -, -⟩ := lg_own HW.out hi
            obtain ⟨o2, -, -⟩ := lg_own HW.out ht
            obtain ⟨c0, -, -, -⟩ := lg_cells HW.out (i := i) hi
            obtain ⟨e0, -, -, -⟩ := lg_cells HW.out (i := t) ht
            rw [HN.out.1, HN.out.2.2.2.1] at o1 c0
            rw [HN.out.2.1, HN.out.2.2.2.2] at o2 e0
            obtain ⟨b1, hb1, -, hb1l, p1, -⟩ := o1.pos (by omega)
            obtain ⟨hcp1, hcp2⟩ := o1.le
            obtain ⟨hcq1, hcq2⟩ := o2.le
            rw [hb1] at c0
            have h2A : (a.A t = none ∧ q = 0 ∧ L2 = 0) ∨ ∃ b2, a.A t = some ⟨b2, 0, none⟩ ∧ ∀ j, j < q * 2 → W.cell? ⟨b2, j, none⟩ = some (entF lb j) := by
              rcases o2 with ⟨x1, x2, -⟩ | ⟨b2, cur, x1, -, x3, -, -, -, x7⟩
              · exact .inl ⟨x1, by omega, x2⟩
              · refine .inr ⟨b2, x1, fun j hj => ?_⟩
                rw [cell_of_row _ _ _ _ _ _ x3]
                exact x7 j (by omega)
            have HNW := Lib.hid (send_new (la := la) (lb := lb) (k := m + 1) (q := q) (by rw [HN.out.2.2.2.1]; exact HAQ.out) (by rw [HN.out.2.2.2.1]; exact hlt1) (by rw [HN.out.2.2.2.2]; exact hq2))
            obtain ⟨N, hN⟩ : ∃ N, sendLog la lb (m + 1) = N := ⟨_, rfl⟩
            rw [hN, HN.out.2.2.2.1] at HNW
            have HNN := Lib.hid hN
            generalize hcpe : a.c i = cp at c0 hcp1 hcp2
            generalize hcqe : a.c t = cq at e0 hcq1 hcq2
            unfold maxLen at hcp2 hcq2
            have HP := Lib.hid (And.intro p1 hb1l)
            have HCE := Lib.hid (And.intro hcpe hcqe)
            have hct : ¬ cp = q := by omega
            clear o1 o2 p1 HAQ hN hcpe hcqe
            rcases h2A with ⟨hA2, rfl, hz⟩ | ⟨b2, hA2, hc2⟩
            · first
              | (exfalso; omega)
              | (rw [hA2] at e0
                 refine wp_held_mask (fun W => W.cell? ⟨lo, i * 4, none⟩ = some (.slice (some ⟨b1, 0, none⟩) L1 cp) ∧ W.cell? ⟨lo, t * 4, none⟩ = some (.slice none L2 cq)) [true, true, true, true, true, true, true, true, true, true, true, true, true, true, false, false, false, false] ?A1qcn (by kernel_rfl) rfl (by kernel_rfl) (by repeat' (first | (with_reducible apply tame_then) | (with_reducible apply tame_block) | (with_reducible apply tame_scope) | exact tame_gives | exact tame_body (fun _ _ h => ⟨_, h.1⟩))) ⟨c0, e0⟩ ?headqcn ?tailqcn
                 case headqcn =>
                   intro W5 ⟨s0, s1⟩
                   simp only [pick]
                   go_wp2
                   exact taken
                 case tailqcn =>
                   simp only [pick, List.map_cons, List.map_nil, Bool.not_true, Bool.not_false]
                   refine tail_step ?_
                   refine wpList_apC rfl (.tmp 128) (.tmp 134) _ rfl 35 iE _ 2 16 Try.underlying33 hiE hzE0 hzE1 hzE2 rfl (by omega) w0.heap.size (A := none) (n := 0) (f := entF lb) rfl (fun _ => rfl) (fun ad e => by cases e) (ad := ⟨b1, 0 * 2, none⟩) (m := L1 - 0) (c := cp - 0) (g := fun j => entF la (0 * 2 + j)) rfl (fun j hj => by rw [addr_off]; exact HP.out.1 (0 * 2 + j) (by omega)) HP.out.2 (by omega) (fun j _ => ent_one la _) (entF N) HNW.out.2.1 HNW.out.2.2 L1 (by omega) (by unfold maxLen; omega) (by omega) HW.out.size ?_
                   skip
                   intro A2 c2 w3 ho hg ha
                   have ho' : Own w3 w0.heap.size 35 2 A2 N.length c2 (entF N) := by rw [HNW.out.1]; exact ho
                   have HL2 := Lib.hid (lg_row HW.out.drew ht ho' (grown_any hg _) (.inr ha))
                   have HL3 := Lib.hid (lg_head HL2.out ht)
                   have d0' : w3.cell? ⟨lo, i * 4, none⟩ = some (.slice (some ⟨b1, 0, none⟩) L1 cp) := (HL2.out.cell 4 rfl (j := i * 4) (by omega)).trans (by rw [lgF_0, HN.out.1, HN.out.2.2.2.1, hb1, HCE.out.1])
                   have d1' : w3.cell? ⟨lo, t * 4, none⟩ = some (.slice (none) L2 cq) := (HL2.out.cell 4 rfl (j := t * 4) (by omega)).trans (by rw [lgF_0, HN.out.2.1, HN.out.2.2.2.2, hA2, HCE.out.2])
                   have fz := HL2.out.frz 4 rfl (by omega) (t * 4)
                   rw [HNW.out.1] at HL3
                   clear ho ho' hg ha HL2 HW c0 e0
                   refine holds ⟨d0', d1'⟩ ?_
                   refine tail_step ?_
                   go_wp2
                   refine holds ⟨d0', d1'⟩ ?_
                   refine tail_step ?_
                   go_wp2
                   refine holds ⟨d0', d1'⟩ ?_
                   refine tail_last ?_
                   go_wp2
                   have HTL := Lib.hid (show ((lgS t N S).lg i).length = L1 by show (upd S.lg t N i).length = L1; rw [upd_ne _ _ hit, HN.out.1, HN.out.2.2.2.1])
                   have HTU := Lib.hid (show (lgS t N S).su i = S.su i ∧ (lgS t N S).su t = S.su t from ⟨rfl, rfl⟩)
                   have HTA := Lib.hid (show (lgA t A2 c2 a).hn i = n ∧ (lgA t A2 c2 a).nn i = n from ⟨HH.out.2.2.1, HH.out.2.2.2⟩)
                   have HTE := Lib.hid (tell_eq (i := i) (t := t) (S := S) (N := N) (L1 := L1) (by rw [HN.out.1, HN.out.2.1, HN.out.2.2.1]; exact HNN.out) (by rw [HN.out.1, HN.out.2.2.2.1]))
                   have HDT := Lib.hid (lgA_ok (i := t) (A' := A2) (c' := c2) (l := N) HD.out)
                   refine at_lay (F := fun W' => Code.wp _ _ _ _ W') (HL3.out.sim ⟨rfl, rfl, rfl, rfl⟩) ?_
                   intro W8 hW8
                   have HW := Lib.hid hW8
                   clear hW8 HL3
                   generalize lgS t N S = T at HTL HTU HTE HDT HW
                   generalize lgA t A2 c2 a = AT at HTA HDT HW
                   clear d0' d1' fz
                   obtain ⟨c0, -, c2, c3⟩ := lg_cells HW.out (i := i) hi
                   obtain ⟨bh, bn, hbh, hbn, -, -, hcell⟩ := lg_hn HW.out hi HTA.out.1 HTA.out.2
                   obtain ⟨x0, f0, -, -⟩ := hcell t ht
                   rw [HTL.out] at c0
                   rw [hbh, HTA.out.1] at c2
                   rw [hbn, HTA.out.2] at c3
                   have HBB := Lib.hid (And.intro hbh hbn)
                   clear hcell hbh hbn
                   refine wp_held_mask (fun W => W.cell? ⟨lo, i * 4, none⟩ = some (.slice (AT.A i) L1 (AT.c i)) ∧ W.cell? ⟨lo, i * 4 + 2, none⟩ = some (.slice (some ⟨bh, 0, none⟩) n (AT.hc i)) ∧ W.cell? ⟨lo, i * 4 + 3, none⟩ = some (.slice (some ⟨bn, 0, none⟩) n (AT.nc i))) [true, true, true, true, true, true, true, true, true, true, true, true, true, true, true, true, true, true, true, true, true, false, false, false] ?A1qcnr (by kernel_rfl) rfl (by kernel_rfl) (by repeat' (first | (with_reducible apply tame_then) | (with_reducible apply tame_block) | (with_reducible apply tame_scope) | exact tame_gives | exact tame_body (fun _ _ h => ⟨_, h.1⟩))) ⟨c0, c2, c3⟩ ?headqcnr ?tailqcnr
                   case headqcnr =>
                     intro W5 ⟨s0, s1, s2⟩
                     simp only [pick]
                     go_wp2
                     exact taken
                   case tailqcnr =>
                     simp only [pick, List.map_cons, List.map_nil, Bool.not_true, Bool.not_false]
                     have HA1 := Lib.hid (lg_haset (x := L1) HW.out.drew hi ht HBB.out.1 HTA.out.1)
                     refine tail_step ?_
                     go_wp2
                     refine at_lay (F := fun W' => Holds _ _ _ _ _ _ _ W') HA1.out ?_
                     intro W6 hW6
                     have HA := Lib.hid hW6
                     clear hW6 HA1 HW c0 c2 c3 x0 f0
                     obtain ⟨c0a, -, c2, c3⟩ := lg_cells HA.out (i := i) hi
                     obtain ⟨bh', bn', hbh, hbn, -, -, hcell⟩ := lg_hn HA.out hi HTA.out.1 HTA.out.2
                     obtain ⟨-, -, x1, f1⟩ := hcell t ht
                     have c0 : W6.cell? ⟨lo, i * 4, none⟩ = some (.slice (AT.A i) L1 (AT.c i)) := c0a.trans (by rw [← HTL.out]; rfl)
                     clear c0a
                     rw [HBB.out.1, HTA.out.1] at c2
                     rw [HBB.out.2, HTA.out.2] at c3
                     obtain rfl : bn = bn' := by
                       have := HBB.out.2.symm.trans hbn
                       injection this with this; injection this
                     clear hcell hbh hbn
                     refine holds ⟨c0, c2, c3⟩ ?_
                     refine tail_step ?_
                     go_wp2
                     refine holds ⟨c0, c2, c3⟩ ?_
                     refine tail_last ?_
                     have HA2 := Lib.hid (lg_nxset (x := L1) HA.out hi ht HBB.out.2 HTA.out.2)
                     go_wp2
                     refine at_lay (F := fun W' => Code.wp _ _ _ _ W') (HA2.out.sim ⟨rfl, rfl, rfl, rfl⟩) ?_
                     intro W7 hW7
                     have HF := Lib.hid hW7
                     clear hW7 HA2 HA c0 c2 c3 x1 f1
                     obtain ⟨c0a, c1a, -, -⟩ := lg_cells HF.out (i := i) hi
                     obtain ⟨-, e1a, -, -⟩ := lg_cells HF.out (i := t) ht
                     have c0 : W7.cell? ⟨lo, i * 4, none⟩ = some (.slice (AT.A i) L1 (AT.c i)) := c0a.trans (by rw [← HTL.out]; rfl)
                     have c1 : W7.cell? ⟨lo, i * 4 + 1, none⟩ = some (.int .i64 (T.su i : Nat)) := c1a
                     have e1 : W7.cell? ⟨lo, t * 4 + 1, none⟩ = some (.int .i64 (T.su t : Nat)) := e1a
                     clear c0a c1a e1a
                     have fz := lg_frz HF.out (by omega) (t * 4 + 1)
                     have HSS := Lib.hid (fun x => lg_suset (x := x) HF.out.drew ht)
                     rw [HTU.out.1] at c1
                     rw [HTU.out.2] at e1
                     have h9 := HR5.out
                     rw [HTE.out] at h9
                     have HR6 := Lib.hid h9
                     clear HR5 h9 HTE HTU
                     generalize S.su i = p1 at *
                     generalize S.su t = p2 at *
                     clear HBB HTL HH HNN HNW
                     rcases Nat.lt_or_ge L1 p1 with hm1 | hm1
                     · rcases Nat.lt_or_ge p2 L1 with hm2 | hm2
                       · refine wp_text 18 (by kernel_rfl) (by kernel_rfl) (by kernel_rfl) (by repeat' (first | (with_reducible apply tame_then) | (with_reducible apply tame_block) | (with_reducible apply tame_scope) | exact tame_gives | exact tame_body (fun _ _ h => ⟨_, h.1⟩))) ?_
                         simp only [List.take_succ_cons, List.take_zero, List.drop_succ_cons, List.drop_zero]
                         go_wp2
                         refine headed ?_
                         go_wp2
                         go_ret
                         have e9 := HR6.out
                         rw [show max p2 (min p1 L1) = L1 by omega] at e9
                         subst e9
                         exact ⟨rfl, AT, HDT.out, (HSS.out L1).sim ⟨rfl, rfl, rfl, rfl⟩⟩
                       · refine wp_text 18 (by kernel_rfl) (by kernel_rfl) (by kernel_rfl) (by repeat' (first | (with_reducible apply tame_then) | (with_reducible apply tame_block) | (with_reducible apply tame_scope) | exact tame_gives | exact tame_body (fun _ _ h => ⟨_, h.1⟩))) ?_
                         simp only [List.take_succ_cons, List.take_zero, List.drop_succ_cons, List.drop_zero]
                         go_wp2
                         refine headed ?_
                         go_wp2
                         go_ret
                         have e9 := HR6.out
                         rw [show max p2 (min p1 L1) = p2 by omega] at e9
                         subst e9
                         exact ⟨rfl, AT, HDT.out, (HSS.out p2).sim ⟨rfl, rfl, rfl, rfl⟩⟩
                     · rcases Nat.lt_or_ge p2 p1 with hm2 | hm2
                       · refine wp_text 18 (by kernel_rfl) (by kernel_rfl) (by kernel_rfl) (by repeat' (first | (with_reducible apply tame_then) | (with_reducible apply tame_block) | (with_reducible apply tame_scope) | exact tame_gives | exact tame_body (fun _ _ h => ⟨_, h.1⟩))) ?_
                         simp only [List.take_succ_cons, List.take_zero, List.drop_succ_cons, List.drop_zero]
                         go_wp2
                         refine headed ?_
                         go_wp2
                         go_ret
                         have e9 := HR6.out
                         rw [show max p2 (min p1 L1) = p1 by omega] at e9
                         subst e9
                         exact ⟨rfl, AT, HDT.out, (HSS.out p1).sim ⟨rfl, rfl, rfl, rfl⟩⟩
                       · refine wp_text 18 (by kernel_rfl) (by kernel_rfl) (by kernel_rfl) (by repeat' (first | (with_reducible apply tame_then) | (with_reducible apply tame_block) | (with_reducible apply tame_scope) | exact tame_gives | exact tame_body (fun _ _ h => ⟨_, h.1⟩))) ?_
                         simp only [List.take_succ_cons, List.take_zero, List.drop_succ_cons, List.drop_zero]
                         go_wp2
                         refine headed ?_
                         go_wp2
                         go_ret
                         have e9 := HR6.out
                         rw [show max p2 (min p1 L1) = p2 by omega] at e9
                         subst e9
                         exact ⟨rfl, AT, HDT.out, (HSS.out p2).sim ⟨rfl, rfl, rfl, rfl⟩⟩
                   )
            · have HC2 := Lib.hid hc2
              rw [hA2] at e0
              clear hc2
              refine wp_held_mask (fun W => W.cell? ⟨lo, i * 4, none⟩ = some (.slice (some ⟨b1, 0, none⟩) L1 cp) ∧ W.cell? ⟨lo, t * 4, none⟩ = some (.slice (some ⟨b2, 0, none⟩) L2 cq)) [true, true, true, true, true, true, true, true, true, true, true, true, true, true, false, false, false, false] ?A1qcs (by kernel_rfl) rfl (by kernel_rfl) (by repeat' (first | (with_reducible apply tame_then) | (with_reducible apply tame_block) | (with_reducible apply tame_scope) | exact tame_gives | exact tame_body (fun _ _ h => ⟨_, h.1⟩))) ⟨c0, e0⟩ ?headqcs ?tailqcs
              case headqcs =>
                intro W5 ⟨s0, s1⟩
                simp only [pick]
                go_wp2
                exact taken
              case tailqcs =>
                simp only [pick, List.map_cons, List.map_nil, Bool.not_true, Bool.not_false]
                refine tail_step ?_
                refine wpList_apC rfl (.tmp 128) (.tmp 134) _ rfl 35 iE _ 2 16 Try.underlying33 hiE hzE0 hzE1 hzE2 rfl (by omega) w0.heap.size (A := some ⟨b2, 0, none⟩) (n := q) (f := entF lb) rfl (fun h => by cases h) (ap_some HC2.out) (ad := ⟨b1, q * 2, none⟩) (m := L1 - q) (c := cp - q) (g := fun j => entF la (q * 2 + j)) rfl (fun j hj => by rw [addr_off]; exact HP.out.1 (q * 2 + j) (by omega)) HP.out.2 (by omega) (fun j _ => ent_one la _) (entF N) HNW.out.2.1 HNW.out.2.2 L1 (by omega) (by unfold maxLen; omega) (by omega) HW.out.size ?_
                skip
                intro A2 c2 w3 ho hg ha
                have ho' : Own w3 w0.heap.size 35 2 A2 N.length c2 (entF N) := by rw [HNW.out.1]; exact ho
                have HL2 := Lib.hid (lg_row HW.out.drew ht ho' (grown_any hg _) (.inr ha))
                have HL3 := Lib.hid (lg_head HL2.out ht)
                have d0' : w3.cell? ⟨lo, i * 4, none⟩ = some (.slice (some ⟨b1, 0, none⟩) L1 cp) := (HL2.out.cell 4 rfl (j := i * 4) (by omega)).trans (by rw [lgF_0, HN.out.1, HN.out.2.2.2.1, hb1, HCE.out.1])
                have d1' : w3.cell? ⟨lo, t * 4, none⟩ = some (.slice (some ⟨b2, 0, none⟩) L2 cq) := (HL2.out.cell 4 rfl (j := t * 4) (by omega)).trans (by rw [lgF_0, HN.out.2.1, HN.out.2.2.2.2, hA2, HCE.out.2])
                have fz := HL2.out.frz 4 rfl (by omega) (t * 4)
                rw [HNW.out.1] at HL3
                clear ho ho' hg ha HL2 HW c0 e0
                refine holds ⟨d0', d1'⟩ ?_
                refine tail_step ?_
                go_wp2
                refine holds ⟨d0', d1'⟩ ?_
                refine tail_step ?_
                go_wp2
                refine holds ⟨d0', d1'⟩ ?_
                refine tail_last ?_
                go_wp2
                have HTL := Lib.hid (show ((lgS t N S).lg i).length = L1 by show (upd S.lg t N i).length = L1; rw [upd_ne _ _ hit, HN.out.1, HN.out.2.2.2.1])
                have HTU := Lib.hid (show (lgS t N S).su i = S.su i ∧ (lgS t N S).su t = S.su t from ⟨rfl, rfl⟩)
                have HTA := Lib.hid (show (lgA t A2 c2 a).hn i = n ∧ (lgA t A2 c2 a).nn i = n from ⟨HH.out.2.2.1, HH.out.2.2.2⟩)
                have HTE := Lib.hid (tell_eq (i := i) (t := t) (S := S) (N := N) (L1 := L1) (by rw [HN.out.1, HN.out.2.1, HN.out.2.2.1]; exact HNN.out) (by rw [HN.out.1, HN.out.2.2.2.1]))
                have HDT := Lib.hid (lgA_ok (i := t) (A' := A2) (c' := c2) (l := N) HD.out)
                refine at_lay (F := fun W' => Code.wp _ _ _ _ W') (HL3.out.sim ⟨rfl, rfl, rfl, rfl⟩) ?_
                intro W8 hW8
                have HW := Lib.hid hW8
                clear hW8 HL3
                generalize lgS t N S = T at HTL HTU HTE HDT HW
                generalize lgA t A2 c2 a = AT at HTA HDT HW
                clear d0' d1' fz
                obtain ⟨c0, -, c2, c3⟩ := lg_cells HW.out (i := i) hi
                obtain ⟨bh, bn, hbh, hbn, -, -, hcell⟩ := lg_hn HW.out hi HTA.out.1 HTA.out.2
                obtain ⟨x0, f0, -, -⟩ := hcell t ht
                rw [HTL.out] at c0
                rw [hbh, HTA.out.1] at c2
                rw [hbn, HTA.out.2] at c3
                have HBB := Lib.hid (And.intro hbh hbn)
                clear hcell hbh hbn
                refine wp_held_mask (fun W => W.cell? ⟨lo, i * 4, none⟩ = some (.slice (AT.A i) L1 (AT.c i)) ∧ W.cell? ⟨lo, i * 4 + 2, none⟩ = some (.slice (some ⟨bh, 0, none⟩) n (AT.hc i)) ∧ W.cell? ⟨lo, i * 4 + 3, none⟩ = some (.slice (some ⟨bn, 0, none⟩) n (AT.nc i))) [true, true, true, true, true, true, true, true, true, true, true, true, true, true, true, true, true, true, true, true, true, false, false, false] ?A1qcsr (by kernel_rfl) rfl (by kernel_rfl) (by repeat' (first | (with_reducible apply tame_then) | (with_reducible apply tame_block) | (with_reducible apply tame_scope) | exact tame_gives | exact tame_body (fun _ _ h => ⟨_, h.1⟩))) ⟨c0, c2, c3⟩ ?headqcsr ?tailqcsr
                case headqcsr =>
                  intro W5 ⟨s0, s1, s2⟩
                  simp only [pick]
                  go_wp2
                  exact taken
                case tailqcsr =>
                  simp only [pick, List.map_cons, List.map_nil, Bool.not_true, Bool.not_false]
                  have HA1 := Lib.hid (lg_haset (x := L1) HW.out.drew hi ht HBB.out.1 HTA.out.1)
                  refine tail_step ?_
                  go_wp2
                  refine at_lay (F := fun W' => Holds _ _ _ _ _ _ _ W') HA1.out ?_
                  intro W6 hW6
                  have HA := Lib.hid hW6
                  clear hW6 HA1 HW c0 c2 c3 x0 f0
                  obtain ⟨c0a, -, c2, c3⟩ := lg_cells HA.out (i := i) hi
                  obtain ⟨bh', bn', hbh, hbn, -, -, hcell⟩ := lg_hn HA.out hi HTA.out.1 HTA.out.2
                  obtain ⟨-, -, x1, f1⟩ := hcell t ht
                  have c0 : W6.cell? ⟨lo, i * 4, none⟩ = some (.slice (AT.A i) L1 (AT.c i)) := c0a.trans (by rw [← HTL.out]; rfl)
                  clear c0a
                  rw [HBB.out.1, HTA.out.1] at c2
                  rw [HBB.out.2, HTA.out.2] at c3
                  obtain rfl : bn = bn' := by
                    have := HBB.out.2.symm.trans hbn
                    injection this with this; injection this
                  clear hcell hbh hbn
                  refine holds ⟨c0, c2, c3⟩ ?_
                  refine tail_step ?_
                  go_wp2
                  refine holds ⟨c0, c2, c3⟩ ?_
                  refine tail_last ?_
                  have HA2 := Lib.hid (lg_nxset (x := L1) HA.out hi ht HBB.out.2 HTA.out.2)
                  go_wp2
                  refine at_lay (F := fun W' => Code.wp _ _ _ _ W') (HA2.out.sim ⟨rfl, rfl, rfl, rfl⟩) ?_
                  intro W7 hW7
                  have HF := Lib.hid hW7
                  clear hW7 HA2 HA c0 c2 c3 x1 f1
                  obtain ⟨c0a, c1a, -, -⟩ := lg_cells HF.out (i := i) hi
                  obtain ⟨-, e1a, -, -⟩ := lg_cells HF.out (i := t) ht
                  have c0 : W7.cell? ⟨lo, i * 4, none⟩ = some (.slice (AT.A i) L1 (AT.c i)) := c0a.trans (by rw [← HTL.out]; rfl)
                  have c1 : W7.cell? ⟨lo, i * 4 + 1, none⟩ = some (.int .i64 (T.su i : Nat)) := c1a
                  have e1 : W7.cell? ⟨lo, t * 4 + 1, none⟩ = some (.int .i64 (T.su t : Nat)) := e1a
                  clear c0a c1a e1a
                  have fz := lg_frz HF.out (by omega) (t * 4 + 1)
                  have HSS := Lib.hid (fun x => lg_suset (x := x) HF.out.drew ht)
                  rw [HTU.out.1] at c1
                  rw [HTU.out.2] at e1
                  have h9 := HR5.out
                  rw [HTE.out] at h9
                  have HR6 := Lib.hid h9
                  clear HR5 h9 HTE HTU
                  generalize S.su i = p1 at *
                  generalize S.su t = p2 at *
                  clear HBB HTL HH HNN HNW
                  rcases Nat.lt_or_ge L1 p1 with hm1 | hm1
                  · rcases Nat.lt_or_ge p2 L1 with hm2 | hm2
                    · refine wp_text 18 (by kernel_rfl) (by kernel_rfl) (by kernel_rfl) (by repeat' (first | (with_reducible apply tame_then) | (with_reducible apply tame_block) | (with_reducible apply tame_scope) | exact tame_gives | exact tame_body (fun _ _ h => ⟨_, h.1⟩))) ?_
                      simp only [List.take_succ_cons, List.take_zero, List.drop_succ_cons, List.drop_zero]
                      go_wp2
                      refine headed ?_
                      go_wp2
                      go_ret
                      have e9 := HR6.out
                      rw [show max p2 (min p1 L1) = L1 by omega] at e9
                      subst e9
                      exact ⟨rfl, AT, HDT.out, (HSS.out L1).sim ⟨rfl, rfl, rfl, rfl⟩⟩
                    · refine wp_text 18 (by kernel_rfl) (by kernel_rfl) (by kernel_rfl) (by repeat' (first | (with_reducible apply tame_then) | (with_reducible apply tame_block) | (with_reducible apply tame_scope) | exact tame_gives | exact tame_body (fun _ _ h => ⟨_, h.1⟩))) ?_
                      simp only [List.take_succ_cons, List.take_zero, List.drop_succ_cons, List.drop_zero]
                      go_wp2
                      refine headed ?_
                      go_wp2
                      go_ret
                      have e9 := HR6.out
                      rw [show max p2 (min p1 L1) = p2 by omega] at e9
                      subst e9
                      exact ⟨rfl, AT, HDT.out, (HSS.out p2).sim ⟨rfl, rfl, rfl, rfl⟩⟩
                  · rcases Nat.lt_or_ge p2 p1 with hm2 | hm2
                    · refine wp_text 18 (by kernel_rfl) (by kernel_rfl) (by kernel_rfl) (by repeat' (first | (with_reducible apply tame_then) | (with_reducible apply tame_block) | (with_reducible apply tame_scope) | exact tame_gives | exact tame_body (fun _ _ h => ⟨_, h.1⟩))) ?_
                      simp only [List.take_succ_cons, List.take_zero, List.drop_succ_cons, List.drop_zero]
                      go_wp2
                      refine headed ?_
                      go_wp2
                      go_ret
                      have e9 := HR6.out
                      rw [show max p2 (min p1 L1) = p1 by omega] at e9
                      subst e9
                      exact ⟨rfl, AT, HDT.out, (HSS.out p1).sim ⟨rfl, rfl, rfl, rfl⟩⟩
                    · refine wp_text 18 (by kernel_rfl) (by kernel_rfl) (by kernel_rfl) (by repeat' (first | (with_reducible apply tame_then) | (with_reducible apply tame_block) | (with_reducible apply tame_scope) | exact tame_gives | exact tame_body (fun _ _ h => ⟨_, h.1⟩))) ?_
                      simp only [List.take_succ_cons, List.take_zero, List.drop_succ_cons, List.drop_zero]
                      go_wp2
                      refine headed ?_
                      go_wp2
                      go_ret
                      have e9 := HR6.out
                      rw [show max p2 (min p1 L1) = p2 by omega] at e9
                      subst e9
                      exact ⟨rfl, AT, HDT.out, (HSS.out p2).sim ⟨rfl, rfl, rfl, rfl⟩⟩
        · have hqL : q = L1 := by omega
          go_wp2
          refine wp_text_all (by kernel_rfl) (by kernel_rfl) (by kernel_rfl) (by repeat' (first | (with_reducible apply tame_then) | (with_reducible apply tame_block) | (with_reducible apply tame_scope) | exact tame_gives | exact tame_body (fun _ _ h => ⟨_, h.1⟩))) ?_
          go_wp2
          refine headed ?_
          go_wp2
          have hAQ : alike la lb (L1 - (m + 1)) (m + 1) = q := HAL.out.symm.trans (alike_stop (.inl (by omega)))
          have hN : sendLog la lb (m + 1) = lb := by
            unfold sendLog
            rw [HN.out.2.2.2.1, hAQ, if_neg (by omega)]
          refine at_lay (F := fun W' => Code.wp _ _ _ _ W') (HQ.out.sim ⟨rfl, rfl, rfl, rfl⟩) ?_
          intro W8 hW8
          have HE0 := tell_eq (i := i) (t := t) (S := S) (N := lb) (L1 := L1) (by rw [HN.out.1, HN.out.2.1, HN.out.2.2.1]; exact hN) (by rw [HN.out.1, HN.out.2.2.2.1])
          rw [← HN.out.2.1, lgS_self] at HE0
          obtain ⟨T, hT⟩ : ∃ T, S = T := ⟨_, rfl⟩
          obtain ⟨AT, hAT⟩ : ∃ AT, a = AT := ⟨_, rfl⟩
          have HTL := Lib.hid (show (T.lg i).length = L1 by rw [← hT, HN.out.1, HN.out.2.2.2.1])
          have HTU := Lib.hid (show T.su i = S.su i ∧ T.su t = S.su t by rw [← hT]; exact ⟨rfl, rfl⟩)
          have HTA := Lib.hid (show AT.hn i = n ∧ AT.nn i = n by rw [← hAT]; exact ⟨HH.out.2.2.1, HH.out.2.2.2⟩)
          have HTE := Lib.hid (show tellL i t S = suS t (max (S.su t) (min (S.su i) L1)) (nxS i t L1 (haS i t L1 T)) by rw [← hT]; exact HE0)
          have HDT := Lib.hid (show LdOk n AT T by rw [← hT, ← hAT]; exact HD.out)
          have HW : Hid (Lay w0 W8 (rowsG gg g gl lo n T A cap AT R)) := Lib.hid (by rw [← hT, ← hAT]; exact hW8)
          have HNN := Lib.hid hN
          have HNW := Lib.hid hqL
          clear hW8 HE0 hT hAT hAQ hN HQ c0 e0
          obtain ⟨c0, -, c2, c3⟩ := lg_cells HW.out (i := i) hi
          obtain ⟨bh, bn, hbh, hbn, -, -, hcell⟩ := lg_hn HW.out hi HTA.out.1 HTA.out.2
          obtain ⟨x0, f0, -, -⟩ := hcell t ht
          rw [HTL.out] at c0
          rw [hbh, HTA.out.1] at c2
          rw [hbn, HTA.out.2] at c3
          have HBB := Lib.hid (And.intro hbh hbn)
          clear hcell hbh hbn
          refine wp_held_mask (fun W => W.cell? ⟨lo, i * 4, none⟩ = some (.slice (AT.A i) L1 (AT.c i)) ∧ W.cell? ⟨lo, i * 4 + 2, none⟩ = some (.slice (some ⟨bh, 0, none⟩) n (AT.hc i)) ∧ W.cell? ⟨lo, i * 4 + 3, none⟩ = some (.slice (some ⟨bn, 0, none⟩) n (AT.nc i))) [true, true, true, true, true, true, true, true, true, true, true, true, true, true, true, true, true, true, true, true, true, false, false, false] ?A1qdr (by kernel_rfl) rfl (by kernel_rfl) (by repeat' (first | (with_reducible apply tame_then) | (with_reducible apply tame_block) | (with_reducible apply tame_scope) | exact tame_gives | exact tame_body (fun _ _ h => ⟨_, h.1⟩))) ⟨c0, c2, c3⟩ ?headqdr ?tailqdr
          case headqdr =>
            intro W5 ⟨s0, s1, s2⟩
            simp only [pick]
            go_wp2
            exact taken
          case tailqdr =>
            simp only [pick, List.map_cons, List.map_nil, Bool.not_true, Bool.not_false]
            have HA1 := Lib.hid (lg_haset (x := L1) HW.out.drew hi ht HBB.out.1 HTA.out.1)
            refine tail_step ?_
            go_wp2
            refine at_lay (F := fun W' => Holds _ _ _ _ _ _ _ W') HA1.out ?_
            intro W6 hW6
            have HA := Lib.hid hW6
            clear hW6 HA1 HW c0 c2 c3 x0 f0
            obtain ⟨c0a, -, c2, c3⟩ := lg_cells HA.out (i := i) hi
            obtain ⟨bh', bn', hbh, hbn, -, -, hcell⟩ := lg_hn HA.out hi HTA.out.1 HTA.out.2
            obtain ⟨-, -, x1, f1⟩ := hcell t ht
            have c0 : W6.cell? ⟨lo, i * 4, none⟩ = some (.slice (AT.A i) L1 (AT.c i)) := c0a.trans (by rw [← HTL.out]; rfl)
            clear c0a
            rw [HBB.out.1, HTA.out.1] at c2
            rw [HBB.out.2, HTA.out.2] at c3
            obtain rfl : bn = bn' := by
              have := HBB.out.2.symm.trans hbn
              injection this with this; injection this
            clear hcell hbh hbn
            refine holds ⟨c0, c2, c3⟩ ?_
            refine tail_step ?_
            go_wp2
            refine holds ⟨c0, c2, c3⟩ ?_
            refine tail_last ?_
            have HA2 := Lib.hid (lg_nxset (x := L1) HA.out hi ht HBB.out.2 HTA.out.2)
            go_wp2
            refine at_lay (F := fun W' => Code.wp _ _ _ _ W') (HA2.out.sim ⟨rfl, rfl, rfl, rfl⟩) ?_
            intro W7 hW7
            have HF := Lib.hid hW7
            clear hW7 HA2 HA c0 c2 c3 x1 f1
            obtain ⟨c0a, c1a, -, -⟩ := lg_cells HF.out (i := i) hi
            obtain ⟨-, e1a, -, -⟩ := lg_cells HF.out (i := t) ht
            have c0 : W7.cell? ⟨lo, i * 4, none⟩ = some (.slice (AT.A i) L1 (AT.c i)) := c0a.trans (by rw [← HTL.out]; rfl)
            have c1 : W7.cell? ⟨lo, i * 4 + 1, none⟩ = some (.int .i64 (T.su i : Nat)) := c1a
            have e1 : W7.cell? ⟨lo, t * 4 + 1, none⟩ = some (.int .i64 (T.su t : Nat)) := e1a
            clear c0a c1a e1a
            have fz := lg_frz HF.out (by omega) (t * 4 + 1)
            have HSS := Lib.hid (fun x => lg_suset (x := x) HF.out.drew ht)
            rw [HTU.out.1] at c1
            rw [HTU.out.2] at e1
            have h9 := HR5.out
            rw [HTE.out] at h9
            have HR6 := Lib.hid h9
            clear HR5 h9 HTE HTU
            generalize S.su i = p1 at *
            generalize S.su t = p2 at *
            clear HBB HTL HH HNN HNW
            rcases Nat.lt_or_ge L1 p1 with hm1 | hm1
            · rcases Nat.lt_or_ge p2 L1 with hm2 | hm2
              · refine wp_text 18 (by kernel_rfl) (by kernel_rfl) (by kernel_rfl) (by repeat' (first | (with_reducible apply tame_then) | (with_reducible apply tame_block) | (with_reducible apply tame_scope) | exact tame_gives | exact tame_body (fun _ _ h => ⟨_, h.1⟩))) ?_
                simp only [List.take_succ_cons, List.take_zero, List.drop_succ_cons, List.drop_zero]
                go_wp2
                refine headed ?_
                go_wp2
                go_ret
                have e9 := HR6.out
                rw [show max p2 (min p1 L1) = L1 by omega] at e9
                subst e9
                exact ⟨rfl, AT, HDT.out, (HSS.out L1).sim ⟨rfl, rfl, rfl, rfl⟩⟩
              · refine wp_text 18 (by kernel_rfl) (by kernel_rfl) (by kernel_rfl) (by repeat' (first | (with_reducible apply tame_then) | (with_reducible apply tame_block) | (with_reducible apply tame_scope) | exact tame_gives | exact tame_body (fun _ _ h => ⟨_, h.1⟩))) ?_
                simp only [List.take_succ_cons, List.take_zero, List.drop_succ_cons, List.drop_zero]
                go_wp2
                refine headed ?_
                go_wp2
                go_ret
                have e9 := HR6.out
                rw [show max p2 (min p1 L1) = p2 by omega] at e9
                subst e9
                exact ⟨rfl, AT, HDT.out, (HSS.out p2).sim ⟨rfl, rfl, rfl, rfl⟩⟩
            · rcases Nat.lt_or_ge p2 p1 with hm2 | hm2
              · refine wp_text 18 (by kernel_rfl) (by kernel_rfl) (by kernel_rfl) (by repeat' (first | (with_reducible apply tame_then) | (with_reducible apply tame_block) | (with_reducible apply tame_scope) | exact tame_gives | exact tame_body (fun _ _ h => ⟨_, h.1⟩))) ?_
                simp only [List.take_succ_cons, List.take_zero, List.drop_succ_cons, List.drop_zero]
                go_wp2
                refine headed ?_
                go_wp2
                go_ret
                have e9 := HR6.out
                rw [show max p2 (min p1 L1) = p1 by omega] at e9
                subst e9
                exact ⟨rfl, AT, HDT.out, (HSS.out p1).sim ⟨rfl, rfl, rfl, rfl⟩⟩
              · refine wp_text 18 (by kernel_rfl) (by kernel_rfl) (by kernel_rfl) (by repeat' (first | (with_reducible apply tame_then) | (with_reducible apply tame_block) | (with_reducible apply tame_scope) | exact tame_gives | exact tame_body (fun _ _ h => ⟨_, h.1⟩))) ?_
                simp only [List.take_succ_cons, List.take_zero, List.drop_succ_cons, List.drop_zero]
                go_wp2
                refine headed ?_
                go_wp2
                go_ret
                have e9 := HR6.out
                rw [show max p2 (min p1 L1) = p2 by omega] at e9
                subst e9
                exact ⟨rfl, AT, HDT.out, (HSS.out p2).sim ⟨rfl, rfl, rfl, rfl⟩⟩
end
end Go.Proofs.Ytfhmabpalimcnaa
