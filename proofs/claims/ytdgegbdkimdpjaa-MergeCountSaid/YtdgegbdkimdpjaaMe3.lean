/- The walk of 'join'. -/
import Derived.Test.YtdgegbdkimdpjaaMe2
set_option linter.unusedVariables false
set_option linter.unusedSimpArgs false
namespace Go.Proofs.Ytdgegbdkimdpjaa
open Go.RowKit Go.Maps Go.MapKept

/-- The first k of a vector joined. -/
def mx (s : MeS) (a b k o : Nat) : Nat := if o < k then max (s.ct a o) (s.ct b o) else s.ct a o
/-- .. of both. -/
def mxS (s t : MeS) (i j k : Nat) : MeS := { t with ct := upd (upd s.ct (2 * i) (mx s (2 * i) (2 * j) k)) (2 * i + 1) (mx s (2 * i + 1) (2 * j + 1) k) }
theorem mxS_a (s t : MeS) (i j k : Nat) : (mxS s t i j k).ct (2 * i) k = s.ct (2 * i) k := by
  show upd (upd s.ct (2 * i) _) (2 * i + 1) _ (2 * i) k = _
  rw [upd_ne _ _ (by omega), upd_same, mx, if_neg (by omega)]
theorem mxS_b (s t : MeS) (i j k : Nat) : (mxS s t i j k).ct (2 * i + 1) k = s.ct (2 * i + 1) k := by
  show upd (upd s.ct (2 * i) _) (2 * i + 1) _ (2 * i + 1) k = _
  rw [upd_same, mx, if_neg (by omega)]
theorem mxS_c (s t : MeS) (i j k : Nat) : (mxS s t i j k).ct (2 * j) k = s.ct (2 * j) k := by
  by_cases e : i = j
  · subst e; exact mxS_a s t i i k
  · show upd (upd s.ct (2 * i) _) (2 * i + 1) _ (2 * j) k = _
    rw [upd_ne _ _ (by omega), upd_ne _ _ (by omega)]
theorem mxS_d (s t : MeS) (i j k : Nat) : (mxS s t i j k).ct (2 * j + 1) k = s.ct (2 * j + 1) k := by
  by_cases e : i = j
  · subst e; exact mxS_b s t i i k
  · show upd (upd s.ct (2 * i) _) (2 * i + 1) _ (2 * j + 1) k = _
    rw [upd_ne _ _ (by omega), upd_ne _ _ (by omega)]
theorem mx_next (s : MeS) (a b k : Nat) : upd (mx s a b k) k (max (s.ct a k) (s.ct b k)) = mx s a b (k + 1) := by
  funext o
  by_cases e : o = k
  · subst e; rw [upd_same, mx, if_pos (by omega)]
  · rw [upd_ne _ _ e, mx, mx]
    by_cases h : o < k
    · rw [if_pos h, if_pos (by omega)]
    · rw [if_neg h, if_neg (by omega)]
theorem mxS_next (s t : MeS) (i j k : Nat) : ({ { mxS s t i j k with ct := upd (mxS s t i j k).ct (2 * i) (upd ((mxS s t i j k).ct (2 * i)) k (max (s.ct (2 * i) k) (s.ct (2 * j) k))) } with
    ct := upd (upd (mxS s t i j k).ct (2 * i) (upd ((mxS s t i j k).ct (2 * i)) k (max (s.ct (2 * i) k) (s.ct (2 * j) k)))) (2 * i + 1) (upd (upd (mxS s t i j k).ct (2 * i) (upd ((mxS s t i j k).ct (2 * i)) k (max (s.ct (2 * i) k) (s.ct (2 * j) k))) (2 * i + 1)) k (max (s.ct (2 * i + 1) k) (s.ct (2 * j + 1) k))) } : MeS) = mxS s t i j (k + 1) := by
  unfold mxS
  simp only [MeS.mk.injEq, and_true, true_and]
  funext a
  by_cases e1 : a = 2 * i + 1
  · subst e1
    rw [upd_same, upd_same, upd_ne _ _ (by omega), upd_same, mx_next]
  · rw [upd_ne _ _ e1, upd_ne _ _ e1]
    by_cases e2 : a = 2 * i
    · subst e2
      rw [upd_same, upd_same, upd_ne _ _ (by omega), upd_same, mx_next]
    · rw [upd_ne _ _ e2, upd_ne _ _ e2, upd_ne _ _ e1, upd_ne _ _ e2]
set_option maxRecDepth 100000 in
set_option maxHeartbeats 3200000 in
theorem join_any (g cl n m ga i j : Nat) (bm : Nat → Nat) (R : List LRow) (w0 : World) (f : Nat → Value) (s : MeS) (w : World) (hn1 : 1 ≤ n) (hn : n ≤ 6) (hi : i < m) (hj : j < m) (hbd : MeB 60 s) (h : LayE g cl n m (some ⟨ga, 0, none⟩) bm R w0 f s w) :
    Calls Try.prog 20 #[.pointer (some ⟨ga, i * 4, none⟩), .pointer (some ⟨ga, j * 4, none⟩)] w fun e w' => e = .returned (.tuple #[]) ∧ LayE g cl n m (some ⟨ga, 0, none⟩) bm R w0 f (meJoin s i j) w' := by
  have H := Lib.hid h; clear h
  have HBD := Lib.hid hbd; clear hbd
  go_enter Try.func20, Try.ntmps20
  obtain ⟨es, c, hb, hset⟩ := me_look H.out (show 2 * j < 2 * m by omega)
  have hset : setE (s.st (2 * j)) es c := hset
  have HS := Lib.hid hset
  have hst := setE_st HS.out
  clear hset
  obtain ⟨c0, c1, c2, c3⟩ := me_rep H.out hi
  obtain ⟨d0, d1, d2, d3⟩ := me_rep H.out hj
  have hw0 := H.out.size
  go_wp2_with (first
    | (at_range; refine wpList_rangeE rfl (.tmp 10) _ rfl Try.underlying47 rfl hb ?_; intro w5 hw5 hrg5; have HR5 := Lib.hid hrg5; have HM5 : Hid (LayE g cl n m (some ⟨ga, 0, none⟩) bm R w0 f s w5) := Lib.hid (by rw [hw5]; exact H.out.alloc _); clear hw5 hrg5)
    | fail)
  clear hb H c0 c1 c2 c3 d0 d1 d2 d3
  generalize (w).heap.size = r at HR5 hw0 ⊢
  try go_frame
  go_loopw [] (fun wr => ∃ (seen : Array Nat) (cur : Tag → Bool), Hid (Rng wr (bm (2 * j)) r es c seen) ∧ Hid (∀ t, cur t = true ↔ (s).st (2 * i) t = true ∨ SeenK keyT es seen t) ∧ Hid (LayE g cl n m (some ⟨ga, 0, none⟩) bm R w0 f { s with st := upd (s).st (2 * i) cur } wr)) (fun wr => wr.rangeLeft (bm (2 * j)) r)
  case atStart => exact ⟨#[], (s).st (2 * i), HR5, Lib.hid (fun t => ⟨.inl, fun h => h.elim id (fun h => absurd h (seenK_none _ _ _))⟩), by rw [upd_self]; exact HM5⟩
  case round =>
    clear HR5 HM5
    obtain ⟨seen, cur, HR3, HC, HM⟩ := hrel
    obtain ⟨w6, rfl⟩ : ∃ w6, w6 = wr := ⟨_, rfl⟩
    go_wp2_with (first
      | (at_next; refine wpList_nextE rfl (.tmp 11) rfl rfl HR3.out hst ?_ ?_)
      | fail)
    rotate_left
    · intro e1 w7 hem' hns hrg hlt hgr hsz hen
      have hem : e1 ∈ (es).toList := by simpa using hem'
      obtain ⟨p, hp, hk⟩ := setE_mem HS.out hem
      obtain ⟨hp8, -, hp60⟩ := HBD.out.st _ _ hp
      have hp60 : p.2 ≤ 60 := Nat.le_trans hp60 HBD.out.tags
      obtain ⟨p1, p2⟩ := p
      have hp8 : p1 ≤ 8 := hp8
      have hp60 : p2 ≤ 60 := hp60
      have HM6 := Lib.hid (HM.out.turned hgr HR3.out hw0)
      have HLQ : Hid (w6.rangeLeft (bm (2 * j)) r = (leftOf es seen).size) := Lib.hid HR3.out.left_eq
      have HLT2 := Lib.hid hlt
      have HSP := Lib.hid (fun a' => seenK_push (seen := seen) keyT_inj hst hem hk a')
      have HPP := Lib.hid hp
      have HR7 := Lib.hid ((hrg.alloc (.cells #[.int .i64 (p1 : Nat), .int .i64 (p2 : Nat)] 58)).sim (w' := (w7.alloc (.cells #[.int .i64 (p1 : Nat), .int .i64 (p2 : Nat)] 58)).drew) ⟨rfl, rfl, rfl, rfl⟩)
      have HM7 := Lib.hid (HM6.out.alloc (.cells #[.int .i64 (p1 : Nat), .int .i64 (p2 : Nat)] 58)).drew
      rw [hk] at hen ⊢
      unfold keyT at hen ⊢
      clear hem hem' hns hlt hgr hsz hrg hk HM6 hp
      go_wp2_with fail
      have dd0 : (w7.alloc (.cells #[.int .i64 (p1 : Nat), .int .i64 (p2 : Nat)] 58)).cell? ⟨w7.heap.size, 0, none⟩ = some (.int .i64 (p1 : Nat)) := by rw [World.cell?_alloc_new]; rfl
      have dd1 : (w7.alloc (.cells #[.int .i64 (p1 : Nat), .int .i64 (p2 : Nat)] 58)).cell? ⟨w7.heap.size, 1, none⟩ = some (.int .i64 (p2 : Nat)) := by rw [World.cell?_alloc_new]; rfl
      generalize (w7.alloc (.cells #[.int .i64 (p1 : Nat), .int .i64 (p2 : Nat)] 58)) = W at dd0 dd1 HR7 HM7 ⊢
      generalize w7.heap.size = q6 at dd0 dd1 ⊢
      obtain ⟨es', k', hput, hL, hR⟩ := me_union (p := (p1, p2)) HM7.out HR7.out (show 2 * i < 2 * m by omega) (show 2 * j < 2 * m by omega) (show p1 < 1000 by omega) (show p2 < 1000 by omega) (fun hab => (HC.out _).2 (.inl (by
        rw [hab]; exact id HPP.out)))
      have HL := Lib.hid hL
      have HR8 := Lib.hid hR
      have HCN := Lib.hid (fun t => show (cur t || decide (t = (p1, p2))) = true ↔ _ by
        rw [Bool.or_eq_true, decide_eq_true_iff, HC.out t, or_assoc, ← HSP.out])
      clear hL hR
      have hmr := me_rep HM7.out hi
      obtain ⟨c0, c1, c2, c3⟩ : W.cell? ⟨ga, i * 4, none⟩ = some (.map (some (bm (2 * i)))) ∧ W.cell? ⟨ga, i * 4 + 1, none⟩ = some (.map (some (bm (2 * i + 1)))) ∧ W.cell? ⟨ga, i * 4 + 2, none⟩ = some (f (2 * i)) ∧ W.cell? ⟨ga, i * 4 + 3, none⟩ = some (f (2 * i + 1)) := hmr
      go_wp2
      refine wp_text 5 (by kernel_rfl) (by kernel_rfl) (by kernel_rfl) (by repeat' (first | (with_reducible apply tame_then) | (with_reducible apply tame_block) | (with_reducible apply tame_scope) | exact tame_gives | exact tame_body (fun _ _ h => ⟨_, h.1⟩))) ?_
      simp only [List.take_succ_cons, List.take_zero, List.drop_succ_cons, List.drop_zero]
      go_wp2
      refine headed ?_
      refine wpList_updE rfl (.tmp 19) (.tmp 20) (.const (.bool true)) _ rfl rfl rfl rfl hput ?_
      go_wp2
      go_roundw
      case rel => first | exact ⟨_, _, _, _, _, _, _, _, _, _, ⟨_, _, HR8, HCN, HL⟩, rfl⟩ | exact ⟨_, _, _, _, _, _, _, _, _, _, _, ⟨_, _, HR8, HCN, HL⟩, rfl⟩ | exact ⟨_, _, _, _, _, _, _, _, _, ⟨_, _, HR8, HCN, HL⟩, rfl⟩ | exact ⟨_, _, _, _, _, _, _, _, _, _, _, _, _, _, _, _, _, _, _, _, ⟨_, _, HR8, HCN, HL⟩, rfl⟩ | exact ⟨_, _, _, _, _, _, _, _, _, _, _, _, _, _, _, _, _, _, _, _, _, ⟨_, _, HR8, HCN, HL⟩, rfl⟩ | exact ⟨_, _, _, _, _, _, _, _, _, _, _, _, _, _, _, _, _, _, _, ⟨_, _, HR8, HCN, HL⟩, rfl⟩
      case measure => rw [HR8.out.left_eq, HLQ.out]; exact HLT2.out
    intro h0'
    have h0 : (leftOf es seen).size = 0 := by simpa using h0'
    have hcur : cur = fun q => (s).st (2 * i) q || s.st (2 * j) q := funext fun q => by
      rw [Bool.eq_iff_iff, Bool.or_eq_true, HC.out]
      constructor
      · rintro (h | ⟨e, he, hk, _⟩)
        · exact .inl h
        · obtain ⟨p, hp, hk2⟩ := setE_mem HS.out he
          obtain rfl : q = p := keyT_inj _ _ (hk.symm.trans hk2)
          exact .inr hp
      · rintro (h | h)
        · exact .inl h
        · exact .inr (seenK_all h0 (setE_has HS.out h))
    subst hcur
    clear h0 h0' HC HR3 HS hst hw0
    obtain ⟨s1, hs1⟩ : ∃ s1, s1 = ({ s with st := upd s.st (2 * i) (fun q => s.st (2 * i) q || s.st (2 * j) q) } : MeS) := ⟨_, rfl⟩
    rw [← hs1] at HM
    have HS1 := Lib.hid hs1
    have HSB : Hid (s1.st (2 * j + 1) = s.st (2 * j + 1)) := Lib.hid (by rw [hs1]; exact upd_ne _ _ (by omega))
    have HSA : Hid (s1.st (2 * i + 1) = s.st (2 * i + 1)) := Lib.hid (by rw [hs1]; exact upd_ne _ _ (by omega))
    clear hs1
    obtain ⟨es2, k2, hb, hset⟩ := me_look HM.out (show 2 * j + 1 < 2 * m by omega)
    have hset : setE (s.st (2 * j + 1)) es2 k2 := (HSB.out ▸ hset)
    have HS := Lib.hid hset
    have hst := setE_st HS.out
    clear hset
    obtain ⟨c0, c1, c2, c3⟩ := me_rep HM.out hi
    obtain ⟨d0, d1, d2, d3⟩ := me_rep HM.out hj
    have hw0 := HM.out.size
    go_wp2_with (first
      | (at_range; refine wpList_rangeE rfl (.tmp 24) _ rfl Try.underlying47 rfl hb ?_; intro w5 hw5 hrg5; have HR5 := Lib.hid hrg5; have HM5 : Hid (LayE g cl n m (some ⟨ga, 0, none⟩) bm R w0 f s1 w5) := Lib.hid (by rw [hw5]; exact HM.out.alloc _); clear hw5 hrg5)
      | fail)
    clear hb HM c0 c1 c2 c3 d0 d1 d2 d3
    generalize (w6).heap.size = r at HR5 hw0 ⊢
    try go_frame
    go_loopw [] (fun wr => ∃ (seen : Array Nat) (cur : Tag → Bool), Hid (Rng wr (bm (2 * j + 1)) r es2 k2 seen) ∧ Hid (∀ t, cur t = true ↔ (s1).st (2 * i + 1) t = true ∨ SeenK keyT es2 seen t) ∧ Hid (LayE g cl n m (some ⟨ga, 0, none⟩) bm R w0 f { s1 with st := upd (s1).st (2 * i + 1) cur } wr)) (fun wr => wr.rangeLeft (bm (2 * j + 1)) r)
    case atStart => exact ⟨#[], (s1).st (2 * i + 1), HR5, Lib.hid (fun t => ⟨.inl, fun h => h.elim id (fun h => absurd h (seenK_none _ _ _))⟩), by rw [upd_self]; exact HM5⟩
    case round =>
      clear HR5 HM5
      obtain ⟨seen, cur, HR3, HC, HM⟩ := hrel
      obtain ⟨w6, rfl⟩ : ∃ w6, w6 = wr := ⟨_, rfl⟩
      go_wp2_with (first
        | (at_next; refine wpList_nextE rfl (.tmp 25) rfl rfl HR3.out hst ?_ ?_)
        | fail)
      rotate_left
      · intro e1 w7 hem' hns hrg hlt hgr hsz hen
        have hem : e1 ∈ (es2).toList := by simpa using hem'
        obtain ⟨p, hp, hk⟩ := setE_mem HS.out hem
        obtain ⟨hp8, -, hp60⟩ := HBD.out.st _ _ hp
        have hp60 : p.2 ≤ 60 := Nat.le_trans hp60 HBD.out.tags
        obtain ⟨p1, p2⟩ := p
        have hp8 : p1 ≤ 8 := hp8
        have hp60 : p2 ≤ 60 := hp60
        have HM6 := Lib.hid (HM.out.turned hgr HR3.out hw0)
        have HLQ : Hid (w6.rangeLeft (bm (2 * j + 1)) r = (leftOf es2 seen).size) := Lib.hid HR3.out.left_eq
        have HLT2 := Lib.hid hlt
        have HSP := Lib.hid (fun a' => seenK_push (seen := seen) keyT_inj hst hem hk a')
        have HPP := Lib.hid hp
        have HR7 := Lib.hid ((hrg.alloc (.cells #[.int .i64 (p1 : Nat), .int .i64 (p2 : Nat)] 58)).sim (w' := (w7.alloc (.cells #[.int .i64 (p1 : Nat), .int .i64 (p2 : Nat)] 58)).drew) ⟨rfl, rfl, rfl, rfl⟩)
        have HM7 := Lib.hid (HM6.out.alloc (.cells #[.int .i64 (p1 : Nat), .int .i64 (p2 : Nat)] 58)).drew
        rw [hk] at hen ⊢
        unfold keyT at hen ⊢
        clear hem hem' hns hlt hgr hsz hrg hk HM6 hp
        go_wp2_with fail
        have dd0 : (w7.alloc (.cells #[.int .i64 (p1 : Nat), .int .i64 (p2 : Nat)] 58)).cell? ⟨w7.heap.size, 0, none⟩ = some (.int .i64 (p1 : Nat)) := by rw [World.cell?_alloc_new]; rfl
        have dd1 : (w7.alloc (.cells #[.int .i64 (p1 : Nat), .int .i64 (p2 : Nat)] 58)).cell? ⟨w7.heap.size, 1, none⟩ = some (.int .i64 (p2 : Nat)) := by rw [World.cell?_alloc_new]; rfl
        generalize (w7.alloc (.cells #[.int .i64 (p1 : Nat), .int .i64 (p2 : Nat)] 58)) = W at dd0 dd1 HR7 HM7 ⊢
        generalize w7.heap.size = q6 at dd0 dd1 ⊢
        obtain ⟨es', k', hput, hL, hR⟩ := me_union (p := (p1, p2)) HM7.out HR7.out (show 2 * i + 1 < 2 * m by omega) (show 2 * j + 1 < 2 * m by omega) (show p1 < 1000 by omega) (show p2 < 1000 by omega) (fun hab => (HC.out _).2 (.inl (by
          rw [hab]; exact (fun h => (congrFun HSB.out _).trans h) HPP.out)))
        have HL := Lib.hid hL
        have HR8 := Lib.hid hR
        have HCN := Lib.hid (fun t => show (cur t || decide (t = (p1, p2))) = true ↔ _ by
          rw [Bool.or_eq_true, decide_eq_true_iff, HC.out t, or_assoc, ← HSP.out])
        clear hL hR
        have hmr := me_rep HM7.out hi
        obtain ⟨c0, c1, c2, c3⟩ : W.cell? ⟨ga, i * 4, none⟩ = some (.map (some (bm (2 * i)))) ∧ W.cell? ⟨ga, i * 4 + 1, none⟩ = some (.map (some (bm (2 * i + 1)))) ∧ W.cell? ⟨ga, i * 4 + 2, none⟩ = some (f (2 * i)) ∧ W.cell? ⟨ga, i * 4 + 3, none⟩ = some (f (2 * i + 1)) := hmr
        go_wp2
        refine wp_text 5 (by kernel_rfl) (by kernel_rfl) (by kernel_rfl) (by repeat' (first | (with_reducible apply tame_then) | (with_reducible apply tame_block) | (with_reducible apply tame_scope) | exact tame_gives | exact tame_body (fun _ _ h => ⟨_, h.1⟩))) ?_
        simp only [List.take_succ_cons, List.take_zero, List.drop_succ_cons, List.drop_zero]
        go_wp2
        refine headed ?_
        refine wpList_updE rfl (.tmp 33) (.tmp 34) (.const (.bool true)) _ rfl rfl rfl rfl hput ?_
        go_wp2
        go_roundw
        case rel => first | exact ⟨_, _, _, _, _, _, _, _, _, _, ⟨_, _, HR8, HCN, HL⟩, rfl⟩ | exact ⟨_, _, _, _, _, _, _, _, _, _, _, ⟨_, _, HR8, HCN, HL⟩, rfl⟩ | exact ⟨_, _, _, _, _, _, _, _, _, ⟨_, _, HR8, HCN, HL⟩, rfl⟩ | exact ⟨_, _, _, _, _, _, _, _, _, _, _, _, _, _, _, _, _, _, _, _, ⟨_, _, HR8, HCN, HL⟩, rfl⟩ | exact ⟨_, _, _, _, _, _, _, _, _, _, _, _, _, _, _, _, _, _, _, _, _, ⟨_, _, HR8, HCN, HL⟩, rfl⟩ | exact ⟨_, _, _, _, _, _, _, _, _, _, _, _, _, _, _, _, _, _, _, ⟨_, _, HR8, HCN, HL⟩, rfl⟩
        case measure => rw [HR8.out.left_eq, HLQ.out]; exact HLT2.out
      intro h0'
      have h0 : (leftOf es2 seen).size = 0 := by simpa using h0'
      have hcur : cur = fun q => (s1).st (2 * i + 1) q || s.st (2 * j + 1) q := funext fun q => by
        rw [Bool.eq_iff_iff, Bool.or_eq_true, HC.out]
        constructor
        · rintro (h | ⟨e, he, hk, _⟩)
          · exact .inl h
          · obtain ⟨p, hp, hk2⟩ := setE_mem HS.out he
            obtain rfl : q = p := keyT_inj _ _ (hk.symm.trans hk2)
            exact .inr hp
        · rintro (h | h)
          · exact .inl h
          · exact .inr (seenK_all h0 (setE_has HS.out h))
      subst hcur
      clear h0 h0' HC HR3 HS hst hw0
      obtain ⟨s2, hs2⟩ : ∃ s2, s2 = ({ s1 with st := upd s1.st (2 * i + 1) (fun q => s1.st (2 * i + 1) q || s.st (2 * j + 1) q) } : MeS) := ⟨_, rfl⟩
      rw [← hs2] at HM
      have HS2 : Hid (s2.st = (meJoin s i j).st ∧ s2.ct = s.ct ∧ s2.tags = s.tags) := Lib.hid (by
        rw [hs2]
        refine ⟨?_, by rw [HS1.out], by rw [HS1.out]⟩
        show upd s1.st (2 * i + 1) (fun q => s1.st (2 * i + 1) q || s.st (2 * j + 1) q) = upd (upd s.st (2 * i) (fun q => s.st (2 * i) q || s.st (2 * j) q)) (2 * i + 1) (fun q => s.st (2 * i + 1) q || s.st (2 * j + 1) q)
        rw [HSA.out, HS1.out])
      clear hs2 HS1 HSA HSB
      obtain ⟨c0, c1, c2, c3⟩ := me_rep HM.out hi
      obtain ⟨b1, o1, p1, e1, l1, m1, v1, z1⟩ := me_ct HM.out (show 2 * i < 2 * m by omega) hn1
      have E1 := Lib.hid e1
      rw [e1] at c2
      have HM3 : Hid (LayE g cl n m (some ⟨ga, 0, none⟩) bm R w0 f (mxS s s2 i j 0) w6) := Lib.hid (me_ext HM.out rfl rfl (fun a o _ => by
        show upd (upd s.ct (2 * i) (mx s (2 * i) (2 * j) 0)) (2 * i + 1) (mx s (2 * i + 1) (2 * j + 1) 0) a o = s2.ct a o
        have hm0 : ∀ a b, mx s a b 0 = s.ct a := fun a b => funext fun o => by rw [mx, if_neg (by omega)]
        rw [hm0, hm0, upd_self, upd_self, HS2.out.2.1]))
      clear HM e1 v1 z1 c0 c1 c3
      go_wp2
      clear c2
      go_loopw [40] (fun kv wr => ∃ k : Nat, k ≤ n ∧ kv = .int .i64 k ∧ Hid (LayE g cl n m (some ⟨ga, 0, none⟩) bm R w0 f (mxS s s2 i j k) wr)) (fun kv _ => n - (intOf kv).toNat)
      case atStart => exact ⟨0, by omega, rfl, HM3⟩
      case round =>
        clear HM3
        obtain ⟨k, hk, rfl, HM⟩ := hrel
        by_cases hlt : k < n
        · obtain ⟨c0, c1, c2, c3⟩ := me_rep HM.out hi
          obtain ⟨d0, d1, d2, d3⟩ := me_rep HM.out hj
          obtain ⟨b2, o2, p2, e2, l2, m2, v2, z2⟩ := me_ct HM.out (show 2 * i + 1 < 2 * m by omega) hn1
          obtain ⟨b3, o3, p3, e3, l3, m3, v3, z3⟩ := me_ct HM.out (show 2 * j < 2 * m by omega) hn1
          obtain ⟨b4, o4, p4, e4, l4, m4, v4, z4⟩ := me_ct HM.out (show 2 * j + 1 < 2 * m by omega) hn1
          obtain ⟨b1', o1', p1', e1, -, -, v1, z1⟩ := me_ct HM.out (show 2 * i < 2 * m by omega) hn1
          rw [E1.out] at e1
          injection e1 with e1 _ ep
          injection e1 with e1
          injection e1 with eb eo
          subst eb; subst eo; subst ep
          have hap : b1 ≠ b2 := by
            have := HM.out.ap (2 * i) (2 * i + 1) (by omega)
            rw [E1.out, e2] at this
            rcases this with h | h
            · cases h
            · exact fun e => h (by rw [e]; rfl)
          have hap2 := Ne.symm hap
          have x1 : wr.cell? ⟨b1, o1 + k, none⟩ = some (.int .i64 (s.ct (2 * i) k : Nat)) := by rw [v1 k hlt, mxS_a]
          have x2 : wr.cell? ⟨b2, o2 + k, none⟩ = some (.int .i64 (s.ct (2 * i + 1) k : Nat)) := by rw [v2 k hlt, mxS_b]
          have x3 : wr.cell? ⟨b3, o3 + k, none⟩ = some (.int .i64 (s.ct (2 * j) k : Nat)) := by rw [v3 k hlt, mxS_c]
          have x4 : wr.cell? ⟨b4, o4 + k, none⟩ = some (.int .i64 (s.ct (2 * j + 1) k : Nat)) := by rw [v4 k hlt, mxS_d]
          have y1 := z1 (o1 + k)
          have y2 := z2 (o2 + k)
          have HTK := Lib.hid (me_tick (x := max (s.ct (2 * i + 1) k) (s.ct (2 * j + 1) k)) (me_tick (x := max (s.ct (2 * i) k) (s.ct (2 * j) k)) HM.out.drew (show 2 * i < 2 * m by omega) E1.out hlt) (show 2 * i + 1 < 2 * m by omega) e2 hlt)
          rw [mxS_next] at HTK
          rw [E1.out] at c2
          rw [e2] at c3
          rw [e3] at d2
          rw [e4] at d3
          clear v1 v2 v3 v4 z1 z2 z3 z4 e2 e3 e4 c0 c1 d0 d1
          have hm1 : (if ((s.ct (2 * i) k : Nat) : Int) < ((s.ct (2 * j) k : Nat) : Int) then ((s.ct (2 * j) k : Nat) : Int) else ((s.ct (2 * i) k : Nat) : Int)) = ((max (s.ct (2 * i) k) (s.ct (2 * j) k) : Nat) : Int) := by split <;> omega
          have hm2 : (if ((s.ct (2 * i + 1) k : Nat) : Int) < ((s.ct (2 * j + 1) k : Nat) : Int) then ((s.ct (2 * j + 1) k : Nat) : Int) else ((s.ct (2 * i + 1) k : Nat) : Int)) = ((max (s.ct (2 * i + 1) k) (s.ct (2 * j + 1) k) : Nat) : Int) := by split <;> omega
          generalize ((max (s.ct (2 * i) k) (s.ct (2 * j) k) : Nat) : Int) = Q1 at hm1 HTK
          generalize ((max (s.ct (2 * i + 1) k) (s.ct (2 * j + 1) k) : Nat) : Int) = Q2 at hm2 HTK
          generalize ((s.ct (2 * i) k : Nat) : Int) = u1 at x1 hm1
          generalize ((s.ct (2 * i + 1) k : Nat) : Int) = u2 at x2 hm2
          generalize ((s.ct (2 * j) k : Nat) : Int) = u3 at x3 hm1
          generalize ((s.ct (2 * j + 1) k : Nat) : Int) = u4 at x4 hm2
          go_wp2
          refine wp_seq 41 [0, 0, 0, 0, 0, 0, 0, 0, 0, 1, 0, 0, 0, 0, 0, 0, 0, 0, 0, 0, 0, 0, 0, 0, 0, 0, 0, 0, 0, 0, 0, 0, 0, 0, 0, 0, 0, 0, 0, 1, 0, 2, 2, 2] ?A1 ?A2 (by kernel_rfl) (by simp) (by kernel_rfl) (by repeat' (first | (with_reducible apply tame_then) | (with_reducible apply tame_block) | (with_reducible apply tame_scope) | exact tame_gives | exact tame_body (fun _ _ h => ⟨_, h.1⟩))) ?head ?hsz ?mid ?tail
          case head =>
            simp only [pick, List.map_cons, List.map_nil, Nat.reduceBEq, beq_self_eq_true]
            go_wp2
            exact taken
          case mid =>
            intro W
            simp only [pick, List.map_cons, List.map_nil, Nat.reduceBEq, beq_self_eq_true]
            go_wp2
            exact taken
          case hsz => rfl
          case tail =>
            simp only [pick, List.map_cons, List.map_nil, Nat.reduceBEq, beq_self_eq_true]
            go_wp2
            go_roundw
            case rel => exact ⟨k + 1, by omega, by go_num, HTK⟩
            case measure => simp [intOf]; omega
        · obtain rfl : k = n := by omega
          have HEND := Lib.hid (me_ext (s' := meJoin s i j) HM.out HS2.out.2.2.symm HS2.out.1.symm (fun a o ho => by
            have hx : ∀ a b, mx s a b k o = max (s.ct a o) (s.ct b o) := fun a b => by rw [mx, if_pos ho]
            show upd (upd s.ct (2 * i) (fun q => max (s.ct (2 * i) q) (s.ct (2 * j) q))) (2 * i + 1) (fun q => max (s.ct (2 * i + 1) q) (s.ct (2 * j + 1) q)) a o = upd (upd s.ct (2 * i) (mx s (2 * i) (2 * j) k)) (2 * i + 1) (mx s (2 * i + 1) (2 * j + 1) k) a o
            by_cases e1 : a = 2 * i + 1
            · subst e1; rw [upd_same, upd_same, hx]
            · rw [upd_ne _ _ e1, upd_ne _ _ e1]
              by_cases e2 : a = 2 * i
              · subst e2; rw [upd_same, upd_same, hx]
              · rw [upd_ne _ _ e2, upd_ne _ _ e2]))
          clear HM
          go_wp2
          go_end0
          exact ⟨rfl, HEND.out⟩
end Go.Proofs.Ytdgegbdkimdpjaa
