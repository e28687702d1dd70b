/- The law LogsGoes, walked. -/
import Derived.Test.YtfhmabpalimcnaaLg11
import Derived.Test.YtfhmabpalimcnaaMvApp
set_option linter.unusedVariables false
set_option linter.unusedSimpArgs false
namespace Go.Proofs.Ytfhmabpalimcnaa
open Go.RowKit

abbrev Z0 : Mv := ⟨fun _ => 0, fun _ => 0, fun _ => 0, fun _ => 0⟩
abbrev mvs (A : Option Addr) (q cap : Nat) (M : Mv) : LRow := ⟨A, 40, 4, q, cap, mvF M⟩
theorem lgE_push (n : Nat) (M : Mv) (q : Nat) (k f t v : Int) : lgE n (M.push q k f t v) (q + 1) = (lgStep n k f t v (lgE n M q)).2 := by
  obtain ⟨h1, h2, h3, h4⟩ := push_at M q k f t v
  rw [lgE, h1, h2, h3, h4, lgE_congr (q := q) (M := M.push q k f t v) (M' := M) (fun j hj => push_other M q k f t v (by omega)) q (Nat.le_refl _)]
theorem one_len (M : Mv) : ∀ j, ((lgE 1 M j).lg 0).length ≤ j
  | 0 => Nat.le_refl _
  | j + 1 => by
    have ih := one_len M j
    show ((lgStep 1 (M.k j) (M.f j) (M.t j) (M.v j) (lgE 1 M j)).2.lg 0).length ≤ j + 1
    generalize lgE 1 M j = S at ih
    generalize M.k j = k
    generalize M.f j = f
    generalize M.t j = t
    generalize M.v j = v
    unfold lgStep
    split
    · show (S.lg 0).length ≤ _; omega
    split
    · show (S.lg 0).length ≤ _; omega
    rename_i hb
    split
    · have e : (standL 1 f.toNat S).2.lg = S.lg := by unfold standL; split <;> rfl
      rw [e]; omega
    split
    · exfalso; rename_i h2; subst h2; apply hb; simp [elBad]; omega
    split
    · exfalso; rename_i h2; subst h2; apply hb; simp [elBad]; omega
    split
    · unfold addL
      split
      · show (S.lg 0).length ≤ _; omega
      split
      · show (S.lg 0).length ≤ _; omega
      · show (upd S.lg f.toNat _ 0).length ≤ _
        rw [upd_apply]; split
        · rename_i e; rw [List.length_append, List.length_singleton, ← e]; omega
        · omega
    split
    · unfold commitL
      split
      · show (S.lg 0).length ≤ _; omega
      · split
        · show (S.lg 0).length ≤ _; omega
        · show (S.lg 0).length ≤ _; omega
    · show (S.lg 0).length ≤ _; omega
structure GoP (vals : Nat → Int) (L0 q : Nat) (S : LS) : Prop where
  R : S.e.R 0 = 2
  len : (S.lg 0).length = L0 + q
  su : S.su 0 ≤ L0
  val : ∀ j, j < q → vle (S.lg 0) (L0 + j) = vals j
  trm : ∀ j, j < q → trm (S.lg 0) (L0 + j) = S.e.T 0
theorem go_open (vals : Nat → Int) {S : LS} (h : S.su 0 ≤ (S.lg 0).length) : GoP vals (S.lg 0).length 0 (lgStep 1 1 0 0 0 S).2 := by
  rw [lg_1, if_neg (by simp)]
  have hR : (standS 1 0 S.e).2.R 0 = 2 := by
    unfold standS
    split
    · assumption
    · have e : countS 1 0 0 (setE 0 (S.e.T 0 + 1) 1 0 S.e) = { haveS 0 0 (setE 0 (S.e.T 0 + 1) 1 0 S.e) with R := upd (setE 0 (S.e.T 0 + 1) 1 0 S.e).R 0 2, led := (setE 0 (S.e.T 0 + 1) 1 0 S.e).led ++ [((setE 0 (S.e.T 0 + 1) 1 0 S.e).T 0, 0)] } := if_pos ⟨show upd S.e.R 0 1 0 = 1 from upd_same .., by show 1 < 2 * pop (upd S.e.H 0 0 0 ||| 2 ^ 0); rw [upd_same]; decide⟩
      show (countS 1 0 0 (setE 0 (S.e.T 0 + 1) 1 0 S.e)).R 0 = 2
      rw [e]
      show upd (setE 0 (S.e.T 0 + 1) 1 0 S.e).R 0 2 0 = 2
      exact upd_same ..
  have key : ∀ X : LS, X.lg = S.lg → X.su = S.su → X.e.R 0 = 2 → GoP vals (S.lg 0).length 0 X := fun X h1 h2 h3 => ⟨h3, by rw [h1]; rfl, by rw [h2]; exact h, fun j hj => by omega, fun j hj => by omega⟩
  show GoP vals _ 0 (standL 1 0 S).2
  unfold standL
  split
  · exact key _ rfl rfl hR
  · exact key _ rfl rfl hR
theorem go_add {vals : Nat → Int} {L0 q : Nat} {S : LS} (h : GoP vals L0 q S) (hl : L0 + q < 30) : GoP vals L0 (q + 1) (lgStep 1 4 0 0 (vals q) S).2 := by
  rw [lg_4, if_neg (by simp)]
  have e : addL 0 (vals q) S = (0, pushL 0 (vals q) S) := by unfold addL; rw [if_neg (by rw [h.R]; decide), if_neg (by rw [h.len]; omega)]
  show GoP vals L0 (q + 1) (addL 0 (vals q) S).2
  rw [e]
  have hlg : (pushL 0 (vals q) S).lg 0 = S.lg 0 ++ [(S.e.T 0, vals q)] := by show upd S.lg 0 _ 0 = _; exact upd_same ..
  refine ⟨h.R, by show ((pushL 0 (vals q) S).lg 0).length = _; rw [hlg, List.length_append, h.len, List.length_singleton]; omega, h.su, fun j hj => ?_, fun j hj => ?_⟩
  · show vle ((pushL 0 (vals q) S).lg 0) _ = _
    rw [hlg]
    unfold vle
    rcases Nat.lt_or_ge j q with h1 | h1
    · rw [List.getElem?_append_left (by rw [h.len]; omega)]; exact h.val j h1
    · obtain rfl : j = q := by omega
      rw [← h.len]; simp
  · show Go.Proofs.Ytfhmabpalimcnaa.trm ((pushL 0 (vals q) S).lg 0) _ = S.e.T 0
    rw [hlg]
    rcases Nat.lt_or_ge j q with h1 | h1
    · rw [trm_old (by rw [h.len]; omega)]; exact h.trm j h1
    · obtain rfl : j = q := by omega
      rw [← h.len, trm_new]
theorem go_commit {vals : Nat → Int} {L0 q : Nat} {S : LS} (h : GoP vals L0 q S) : (lgStep 1 5 0 0 0 S).2.e.R 0 = 2 ∧ (lgStep 1 5 0 0 0 S).2.lg 0 = S.lg 0 ∧ (0 < q → (lgStep 1 5 0 0 0 S).2.su 0 = L0 + q) := by
  rw [lg_5, if_neg (by simp)]
  show (commitL 1 0 S).2.e.R 0 = 2 ∧ (commitL 1 0 S).2.lg 0 = _ ∧ (0 < q → (commitL 1 0 S).2.su 0 = _)
  have key : (commitL 1 0 S = (8, S) ∧ findL 1 0 S (S.lg 0).length = none) ∨ ∃ k, findL 1 0 S (S.lg 0).length = some k ∧ commitL 1 0 S = (0, sureL 0 k S) := by
    cases hf : findL 1 0 S (S.lg 0).length with
    | none => left; exact ⟨by unfold commitL; rw [if_neg (by rw [h.R]; decide), hf], rfl⟩
    | some k => right; exact ⟨k, rfl, by unfold commitL; rw [if_neg (by rw [h.R]; decide), hf]⟩
  have hq : 0 < q → findL 1 0 S (S.lg 0).length = some (L0 + q) := fun hq => by
    have ho : okL 1 0 S (L0 + (q - 1) + 1) = true := by
      unfold okL
      rw [Bool.and_eq_true, decide_eq_true_eq, beq_iff_eq]
      exact ⟨by unfold manyL; omega, h.trm (q - 1) (by omega)⟩
    rw [h.len, show L0 + q = L0 + (q - 1) + 1 by omega]
    exact findL_yes (by have := h.su; omega) ho
  rcases key with ⟨e, hn⟩ | ⟨k, hk, e⟩ <;> rw [e]
  · exact ⟨h.R, rfl, fun h2 => by rw [hq h2] at hn; cases hn⟩
  · refine ⟨h.R, rfl, fun h2 => ?_⟩
    rw [hq h2] at hk
    injection hk with hk
    show upd S.su 0 k 0 = _
    rw [upd_same, hk]
set_option maxRecDepth 100000 in
set_option maxHeartbeats 3200000 in
theorem logsGoes_go (m cap nv cv : Nat) (A X : Option Addr) (M : Mv) (u : Nat → Int) (w : World) (hr : Rd w w.heap.size A (m * 4) (mvF M)) (hx : Rd w w.heap.size X nv (fun j => .int .i64 (u j))) (hm : m ≤ 20) (hn : nv ≤ 8) :
    Calls Try.prog 7 #[.slice A m cap, .slice X nv cv] w fun e w' => e = .returned (.bool true) ∧ Below w.heap.size w w' := by
  have HR := Lib.hid hr; clear hr
  have HX := Lib.hid hx; clear hx
  go_enter Try.func7, Try.ntmps7
  go_wp2_with (first
    | (at_builtin; refine wpList_apMvs rfl (.tmp 21) (.tmp 22) rfl w.heap.size rfl (Own.empty _ _ _ _ (mvF Z0) _ (by simp) (by simp)) rfl (HR.out.alloc (Nat.le_refl _) _) m (Nat.zero_add m) (by unfold maxLen; omega) (by omega) (by simp) ?_; intro A3 c3 w3 ho3 hg3 ha3
       have HL3 : Hid (Lay w w3 [mvs A3 m c3 (Z0.app 0 M)]) := (((Lay.nil w).new #[] 40 4 0 (mvF Z0) _ rfl rfl (by unfold maxLen; omega) (fun j hj => absurd hj (by omega))).app 0 rfl ho3 hg3 ha3)
       clear ho3 hg3 ha3)
    | (at_builtin; refine wpList_apMv rfl (.tmp 23) (.tmp 25) rfl w.heap.size rfl w3.heap.size _ _ _ _ rfl rfl (HL3.out.own 0 _ rfl) rfl (by omega) HL3.out.size ?_; intro A4 c4 w4 ho4 hg4 ha4
       have HL4 := Lib.hid ((HL3.out.alloc _).app 0 rfl ho4 hg4 ha4)
       clear ho4 hg4 ha4)
    | fail)
  have hL0 := one_len (Z0.app 0 M) m
  have HG4 : Hid (GoP u ((lgE 1 (Z0.app 0 M) m).lg 0).length 0 (lgE 1 ((Z0.app 0 M).push m 1 0 0 0) (m + 1))) := Lib.hid (by
    rw [lgE_push]
    exact go_open u (lg_sulen (by omega) m 0))
  generalize ((lgE 1 (Z0.app 0 M) m).lg 0).length = L0 at hL0 HG4
  go_loopw [5, 29] (fun l x wr => ∃ (q : Nat) (A' : Option Addr) (cap' : Nat) (M' : Mv), q ≤ nv ∧ x = .int .i64 (q : Nat) ∧ l = .slice A' (m + 1 + q) cap' ∧ Hid (Lay w wr [mvs A' (m + 1 + q) cap' M']) ∧ Hid (GoP u L0 q (lgE 1 M' (m + 1 + q)))) (fun _ x _ => nv - (intOf x).toNat)
  case atStart => exact ⟨0, A4, c4, _, by omega, rfl, rfl, HL4, HG4⟩
  case round =>
    clear HL3 HL4 HG4
    obtain ⟨q, A1, cap1, M1, hq, rfl, rfl, HL, HG⟩ := hrel
    have hz := HL.out.size
    by_cases hlt : q < nv
    · obtain ⟨ax, rfl, -, hxc⟩ := (HX.out.below HL.out.bel) (by omega)
      have x0 := hxc q hlt
      clear hxc
      go_wp2_with (at_builtin; refine wpList_apMv rfl (.tmp 33) (.tmp 36) rfl w.heap.size rfl wr.heap.size _ _ _ _ rfl rfl (HL.out.own 0 _ rfl) rfl (by omega) HL.out.size ?_; intro A2 c2 w2 ho2 hg2 ha2
                   have HL2 := Lib.hid ((HL.out.alloc _).app 0 rfl ho2 hg2 ha2)
                   clear ho2 hg2 ha2)
      have HG2 : Hid (GoP u L0 (q + 1) (lgE 1 (M1.push (m + 1 + q) 4 0 0 (u q)) (m + 1 + q + 1))) := Lib.hid (by
        rw [lgE_push]
        exact go_add HG.out (by omega))
      go_roundw
      case rel => exact ⟨q + 1, A2, c2, _, by omega, by go_num, rfl, HL2, HG2⟩
      case measure => first | (simp [intOf]; done) | (simp [intOf]; omega)
    · obtain rfl : q = nv := by omega
      go_wp2_with (first
        | (at_builtin; refine wpList_apMv rfl (.tmp 39) (.tmp 41) rfl w.heap.size rfl wr.heap.size _ _ _ _ rfl rfl (HL.out.own 0 _ rfl) rfl (by omega) HL.out.size ?_; intro A2 c2 w2 ho2 hg2 ha2
           have HL2 := Lib.hid ((HL.out.alloc _).app 0 rfl ho2 hg2 ha2)
           clear ho2 hg2 ha2)
        | fail)
      have hr2 := HL2.out.rd 0 rfl
      refine (lg_play 1 (m + 1 + q + 1) c2 _ A2 (M1.push (m + 1 + q) 5 0 0 0) w2 (by omega) (by omega) (by omega) (Nat.le_refl _) hr2).mono ?_
      rintro e w5 ⟨v, rfl, p, rfl, hp, hb⟩
      have HBW := Lib.hid (HL2.out.bel.trans (hb.mono HL2.out.size))
      have hco := go_commit HG.out
      have hgl := HG.out.len
      have hgv := HG.out.val
      have hsl := @lg_sulen 1 (M1.push (m + 1 + q) 5 0 0 0) (by omega) (m + 1 + q + 1)
      have hl30 := (LB.all 1 (M1.push (m + 1 + q) 5 0 0 0) (m + 1 + q + 1)).len
      rw [← lgE_push] at hco
      rw [← hco.2.1] at hgl hgv
      generalize lgE 1 (M1.push (m + 1 + q) 5 0 0 0) (m + 1 + q + 1) = S at hco hgl hgv hsl hl30 hp
      have HP := Lib.hid hp
      have HSL := Lib.hid hsl
      have H30 := Lib.hid hl30
      have HCO := Lib.hid hco
      have HGV := Lib.hid hgv
      clear hr2 hb hp hsl hl30 hco hgv HG HL HL2
      go_wp2_with fail
      have HL0 := Lib.hid ((Lay.nil w5).newB (p.l 1 (m + 1 + q + 1)) 27 5 rfl _ rfl)
      refine at_lay (F := fun W' => Calls _ _ _ W' _) HL0.out ?_
      intro W hW
      have HW := Lib.hid hW
      clear hW HL0
      generalize w5.heap.size = bx at HW ⊢
      refine (logged_any 1 (m + 1 + q + 1) w5.heap.size S p _ (by omega) HSL.out H30.out (HP.out.to HW.out.bel)).mono ?_
      rintro e w6 ⟨rfl, hb6⟩
      have HW6 := Lib.hid (HW.out.keep hb6)
      clear hb6 HW
      have b2 := HW6.out.cellB 0 rfl 2 (by omega)
      have b3 := HW6.out.cellB 0 rfl 3 (by omega)
      have b4 := HW6.out.cellB 0 rfl 4 (by omega)
      simp only [ofL_2, ofL_3, ofL_4] at b2 b3 b4
      have hq6 := HP.out.to HW6.out.bel
      have R0 : w6.cell? p.aR = some (.int .i64 2) := by have := hq6.R 0 (by omega); rw [HCO.out.1] at this; simpa [Addr.add] using this
      have G0 : w6.cell? p.aG = some (.slice (p.gA 0) (S.lg 0).length (p.gc 0)) := by simpa [Addr.add] using hq6.G 0 (by omega)
      have hLL : (S.lg 0).length = L0 + q := hgl
      rw [hLL] at G0
      clear hq6
      go_wp2
      clear R0 G0 b2 b3 b4
      go_loopw [75] (fun x wr => ∃ j : Nat, j ≤ q ∧ x = .int .i64 j ∧ Hid (Lay w5 wr [blkG bx (p.l 1 (m + 1 + q + 1))])) (fun x _ => q - (intOf x).toNat)
      case atStart => exact ⟨0, by omega, rfl, HW6⟩
      case round =>
        clear HW6
        obtain ⟨j, hj, rfl, HQ⟩ := hrel
        have b3 := HQ.out.cellB 0 rfl 3 (by omega)
        have b4 := HQ.out.cellB 0 rfl 4 (by omega)
        simp only [ofL_3, ofL_4] at b3 b4
        have hq6 := HP.out.to HQ.out.bel
        have G0 : wr.cell? p.aG = some (.slice (p.gA 0) (S.lg 0).length (p.gc 0)) := by simpa [Addr.add] using hq6.G 0 (by omega)
        have U0 : wr.cell? p.aS = some (.int .i64 (S.su 0 : Nat)) := by simpa [Addr.add] using hq6.U 0 (by omega)
        rw [hLL] at G0
        by_cases hjq : j < q
        · obtain ⟨ax, rfl, -, hxc⟩ := (HX.out.below (HBW.out.trans (HQ.out.bel.mono HBW.out.size))) (by omega)
          have x0 := hxc j hjq
          obtain ⟨-, -, p3⟩ := hq6.L 0 (by omega)
          obtain ⟨ag, hag, -, -, y1⟩ := rd_ent p3 (k := L0 + j) (by rw [hLL]; omega)
          rw [HGV.out j hjq] at y1
          rw [hag] at G0
          have hIdx : ((L0 + q : Nat) : Int) - (q : Int) + (j : Int) = ((L0 + j : Nat) : Int) := by omega
          clear hxc hq6 p3 hag U0
          have e9 : (u j != u j) = false := by simp
          go_wp2
          go_roundw
          case rel => exact ⟨j + 1, by omega, by go_num, HQ⟩
          case measure => first | (simp [intOf]; done) | (simp [intOf]; omega)
        · obtain rfl : j = q := by omega
          clear hq6
          rcases Nat.eq_zero_or_pos j with hz0 | hpos
          · subst hz0
            go_wp2
            go_ret
            exact ⟨rfl, HBW.out.trans (HQ.out.bel.mono HBW.out.size)⟩
          · have hsu := HCO.out.2.2 hpos
            rw [hsu] at U0
            have f1 : ((j : Int) == 0) = false := by simp; omega
            have f2 : (((L0 + j : Nat) : Int) == ((L0 + j : Nat) : Int)) = true := beq_self_eq_true _
            go_wp2
            go_ret
            exact ⟨rfl, HBW.out.trans (HQ.out.bel.mono HBW.out.size)⟩
theorem logsGoes_all (A : Option Addr) (m cap : Nat) (M : Mv) (X : Option Addr) (nv cv : Nat) (u : Nat → Int) (w : World) (hmc : m ≤ cap ∧ cap * 32 ≤ 140737488351232) (hr : Rd w w.heap.size A (m * 4) (mvF M)) (hnc : nv ≤ cv ∧ cv * 8 ≤ 140737488351232) (_ : ∀ j, j < nv → (Lit.int .i64 (u j)).wf = true) (hx : Rd w w.heap.size X nv (fun j => .int .i64 (u j))) :
    Calls Try.prog 7 #[.slice A m cap, .slice X nv cv] w fun e w' => e = .returned (.bool true) ∧ Below w.heap.size w w' := by
  by_cases h1 : m ≤ 20 ∧ nv ≤ 8
  · exact logsGoes_go m cap nv cv A X M u w hr hx h1.1 h1.2
  · have h2 : 20 < (m : Int) ∨ 8 < (nv : Int) := by omega
    have h3 := hmc.1
    have h4 := hmc.2
    clear h1 hr hx
    rcases h2 with h2 | h2
    all_goals
      go_enter Try.func7, Try.ntmps7
      go_wp2
      all_goals
        go_ret
        exact ⟨rfl, Below.refl _ _⟩
end Go.Proofs.Ytfhmabpalimcnaa
