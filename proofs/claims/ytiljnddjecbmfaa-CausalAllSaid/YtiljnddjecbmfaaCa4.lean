/- The walk of causal.Play. -/
import Derived.Test.YtiljnddjecbmfaaCa3
import Derived.Test.YtiljnddjecbmfaaNew
import Derived.Deep.CutRange
import Derived.Deep.CutBlock
set_option linter.unusedVariables false
set_option linter.unusedSimpArgs false
namespace Go.Proofs.Ytiljnddjecbmfaa
open Go.RowKit Go.Maps Go.MapKept

theorem infoErrnoA : (Try.prog.info? 27).map (fun i => (i.zero, i.size, i.bytes)) = some (some (.int .i64 0), 1, 8) := by kernel_rfl
theorem infoSlA : (Try.prog.info? 32).map (fun i => (i.zero, i.size, i.bytes)) = some (some (.slice none 0 0), 1, 24) := by kernel_rfl
theorem infoMapA : (Try.prog.info? 47).map (fun i => (i.zero, i.size, i.bytes)) = some (some (.map none), 1, 8) := by kernel_rfl
abbrev blkH (b : Nat) (l : List Value) : LRow := blk b 26 2 (ofL l)
abbrev zeroHL : List Value := [.slice none 0 0, .slice none 0 0]
abbrev lstC (A : Option Addr) (m cap : Nat) (fc : Nat → Int) : LRow := lst A 27 m cap (fun i => .int .i64 (fc i))
section
variable {w0 w w' : World} {L : List LRow} {Q Q' : List MRow} {α : Type} {e : α → TypeId} {f : α → Value} {q : α → List Value}
theorem LayM.reM (h : LayM w0 w L Q) (p : Nat → Nat) (hp : ∀ i j, p i = p j → i = j) (hQ : ∀ i x, Q'[i]? = some x → Q[p i]? = some x) : LayM w0 w L Q' :=
  ⟨h.lay, fun i x hi => h.map (p i) x (hQ i x hi), fun i j x y hij hi hj => h.ap (p i) (p j) x y (fun e => hij (hp i j e)) (hQ i x hi) (hQ j y hj)⟩
theorem LayQ.newM (h : LayQ w0 w L Q e f q) (φ : Array MapEntry → Nat → Prop) (hφ : φ #[] 0) (b : Nat) (hb : b = w.heap.size) : LayQ w0 (w.alloc (.map #[] 0)) L (Q ++ [⟨b, φ⟩]) e f q := by
  have h1 := h.alloc (.map #[] 0)
  have h2 := h.lm.newM φ hφ b hb
  refine ⟨h2.reM (fun i => if i = Q.length then 0 else i + 1) (fun i j hij => ?_) fun i x hi => ?_, h1.own, h1.ap, h1.row⟩
  · have hij : (if i = Q.length then 0 else i + 1) = if j = Q.length then 0 else j + 1 := hij
    split at hij <;> split at hij <;> omega
  show (⟨b, φ⟩ :: Q : List MRow)[if i = Q.length then 0 else i + 1]? = some x
  by_cases e1 : i = Q.length
  · rw [if_pos e1]
    rw [e1, List.getElem?_append_right (Nat.le_refl _)] at hi
    simpa using hi
  · rw [if_neg e1]
    by_cases e2 : i < Q.length
    · rw [List.getElem?_cons_succ]
      rw [List.getElem?_append_left e2] at hi
      exact hi
    · rw [List.getElem?_eq_none (by simp; omega)] at hi
      cases hi
end
abbrev rowsI (g gt cc cm n ic im : Nat) (AC AM : Option Addr) (bc : Nat → Nat) (f : FC → Value) (R : List LRow) : List LRow :=
  blk g 46 5 (ofL [.int .i64 n, .slice none 0 0, .slice (some ⟨gt, 0, none⟩) n n, .slice AC ic cc, .slice AM im cm]) ::
  ⟨none, 53, 2, 0, 0, msgF f CaS0⟩ :: arr gt 32 n (fun i => f (.inl (.inl i))) :: ⟨AC, 32, 1, ic, cc, fun i => f (.inl (.inr i))⟩ :: ⟨AM, 47, 1, im, cm, fun i => .map (some (bc i))⟩ :: R
def qI (n ic : Nat) : FC → List Value
  | .inl (.inl _) => []
  | .inl (.inr i) => if i < ic then vec n (fun _ => 0) else []
  | .inr _ => []
abbrev mapsI (im : Nat) (bc : Nat → Nat) : List MRow := (List.range im).map fun i => ⟨bc i, comeE (fun _ => false)⟩
abbrev LayI (g gt cc cm n ic im : Nat) (AC AM : Option Addr) (bc : Nat → Nat) (R : List LRow) (w0 : World) (f : FC → Value) (w : World) : Prop := LayQ w0 w (rowsI g gt cc cm n ic im AC AM bc f R) (mapsI im bc) tyC f (qI n ic)
theorem comeE_zero : comeE (fun _ => false) #[] 0 := ⟨0, EMap.empty _ _ _ _ _⟩
section
variable {g gt cc cm n ic im : Nat} {AC AM : Option Addr} {bc : Nat → Nat} {R : List LRow} {w0 w : World} {f : FC → Value}
theorem qI_next (a : FC) : qput (qI n ic) (.inl (.inr ic)) (vec n (fun _ => 0)) a = qI n (ic + 1) a := by
  rcases a with (j | j) | j
  · rw [qput_ne (by simp)]; rfl
  · by_cases e : j = ic
    · subst e
      rw [qput_same]
      exact (if_pos (Nat.lt_succ_self _)).symm
    · rw [qput_ne (fun h => e (Sum.inr.inj (Sum.inl.inj h)))]
      show (if j < ic then vec n (fun _ => 0) else []) = if j < ic + 1 then vec n (fun _ => 0) else []
      by_cases h3 : j < ic
      · rw [if_pos h3, if_pos (by omega)]
      · rw [if_neg h3, if_neg (by omega)]
  · rw [qput_ne (by simp)]; rfl
/-- A clock is made. -/
theorem mk_clock (h : LayI g gt cc cm n ic im AC AM bc R w0 f w) (hn : n ≤ 6) : LayQ w0 (w.alloc (.cells (madeCells #[Value.int .i64 0] n) 3)) (rowsI g gt cc cm n ic im AC AM bc f R) (mapsI im bc) tyC (fput f (.inl (.inr ic)) (.slice (some ⟨w.heap.size, 0, none⟩) n n)) (qI n (ic + 1)) := by
  have hL := (Lay.nil w).make (.int .i64 0) rfl n (by unfold maxLen; omega) 3 (fun _ => .int .i64 0) (fun _ _ => rfl) w.heap.size rfl
  refine (LayQ.fresh h (.inl (.inr ic)) hL.bel ?_ fun k hk => ?_).sameQ fun a => (qI_next a).symm
  · exact own_qsl ((hL.own 0 _ rfl).base_le h.size) (vec_len _ _) (fun j hj => vec_at _ hj)
  · have e : w.heap.size = k := Option.some.inj hk
    omega
theorem maps_next {im b : Nat} {bc : Nat → Nat} : mapsI im bc ++ [⟨b, comeE (fun _ => false)⟩] = mapsI (im + 1) (upd bc im b) := by
  show _ = (List.range (im + 1)).map _
  rw [List.range_succ, List.map_append]
  congr 1
  · exact List.map_congr_left fun j hj => by rw [upd_ne _ _ (by have := List.mem_range.1 hj; omega)]
  · show _ = [(⟨upd bc im b im, _⟩ : MRow)]
    rw [upd_same]
theorem layI_done (h : LayI g gt cc cm n n n AC AM bc R w0 f w) (hn : 1 ≤ n) : ∃ gc gm, AC = some ⟨gc, 0, none⟩ ∧ AM = some ⟨gm, 0, none⟩ ∧ LayC g 0 gt gc cc gm cm n none bc R w0 f CaS0 w := by
  obtain ⟨gc, rfl, -⟩ := (h.lay.own 3 _ rfl).pos (show 0 < n by omega)
  obtain ⟨gm, rfl, -⟩ := (h.lay.own 4 _ rfl).pos (show 0 < n by omega)
  refine ⟨gc, gm, rfl, rfl, h.sameQ fun a => ?_⟩
  rcases a with (a | a) | a
  · rfl
  · rfl
  · show (if a < 0 then vec n (fun _ => 0) else []) = []
    rw [if_neg (by omega)]
end
section
variable (n : Nat) (w : World)
set_option maxRecDepth 100000 in
set_option maxHeartbeats 6400000 in
theorem ca_good (m cap B : Nat) (A : Option Addr) (M : Mv) (hn1 : 1 ≤ n) (hn : n ≤ 6) (hm : m ≤ 60) (hB : B ≤ w.heap.size) (hr : Rd w B A (m * 4) (mvF M)) :
    Calls Try.prog 6 #[.int .i64 n, .slice A m cap] w (Gives fun v w' => ∃ g cl gt gc cc gm cm AL bc f AC2 cC, v = .tuple #[.agg #[.slice AC2 m cC, .slice (some ⟨gt, 0, none⟩) n n], .int .i64 0] ∧
      ∃ br, LayC g cl gt gc cc gm cm n AL bc [lstC AC2 m cC (caC n M), blkH br [.slice AC2 m cC, .slice (some ⟨gt, 0, none⟩) n n]] w f (caE n M m) w') := by
  have HR := Lib.hid hr; clear hr
  obtain ⟨iE, hiE, hzE0, hzE1, hzE2⟩ := info_parts infoErrnoA
  obtain ⟨iS, hiS, hzS0, hzS1, hzS2⟩ := info_parts infoSlA
  obtain ⟨iM, hiM, hzM0, hzM1, hzM2⟩ := info_parts infoMapA
  obtain ⟨iI, hiI, hzI0, hzI1, hzI2⟩ := info_parts infoIntC
  have hmm := @run_makeMap Try.prog
  go_enter Try.func6, Try.ntmps6
  go_wp2_with (at_make; refine wpList_mk1 rfl (.tmp 23) (.tmp 23) _ rfl 32 iS _ 24 Try.underlying24 hiS hzS0 hzS1 hzS2 rfl .i64 .i64 n rfl rfl (by omega) (by unfold maxLen; omega) (w.heap.size + 1) _ (by simp) (Nat.le_refl _) ?_
               intro w2 ho2 he2
               have HL2 : Hid (Lay w w2 [arr (w.heap.size + 1) 32 n (fun _ => .slice none 0 0), blkH w.heap.size zeroHL]) := Lib.hid (by rw [he2]; exact ((Lay.nil w).newB zeroHL 26 2 rfl _ rfl).make (.slice none 0 0) rfl n (by unfold maxLen; omega) _ _ (fun j _ => rfl) _ (by simp))
               clear ho2 he2)
  generalize w.heap.size + 1 = gt at HL2 ⊢
  have HL3 : Hid (LayI w2.heap.size gt 0 0 n 0 0 none none (fun _ => 0) [blkH w.heap.size zeroHL] w (fun _ => .slice none 0 0) (w2.alloc (.cells #[.int .i64 n, .slice none 0 0, .slice (some ⟨gt, 0, none⟩) n n, .slice none 0 0, .slice none 0 0] 46))) := Lib.hid (by
    have h1 := (((HL2.out.newB [.int .i64 n, .slice none 0 0, .slice (some ⟨gt, 0, none⟩) n n, .slice none 0 0, .slice none 0 0] 46 5 rfl w2.heap.size rfl).lnil 53 2 (msgF (fun _ => .slice none 0 0) CaS0)).lnil 32 1 (fun _ => .slice none 0 0)).lnil 47 1 (fun _ => .map (some 0))
    have h2 := h1.perm (L' := rowsI w2.heap.size gt 0 0 n 0 0 none none (fun _ => 0) (fun _ => .slice none 0 0) [blkH w.heap.size zeroHL]) [3, 2, 4, 1, 0, 5] (by decide) rfl
    exact (h2.toM.toQ tyC).sameQ fun a => by
      rcases a with (a | a) | a
      · rfl
      · show (if a < 0 then vec n (fun _ => 0) else []) = []
        rw [if_neg (by omega)]
      · rfl)
  clear HL2
  generalize w.heap.size = br at HL3 ⊢
  go_wp2
  generalize w2.heap.size = g at HL3 ⊢
  go_loopw [28] (fun v wr => ∃ (i : Nat) (AC AM : Option Addr) (cc cm : Nat) (bc : Nat → Nat) (f : FC → Value), i ≤ n ∧ v = .int .i64 i ∧ Hid (LayI g gt cc cm n i i AC AM bc [blkH br zeroHL] w f wr)) (fun v _ => n - (intOf v).toNat)
  case atStart => exact ⟨0, _, _, _, _, _, _, by omega, rfl, HL3⟩
  case round =>
    clear HL3
    obtain ⟨i, AC, AM, cc, cm, bc, f, hi, rfl, HQ⟩ := hrel
    by_cases hlt : i < n
    · have HS0 : Hid (wr.drew.cell? ⟨g, 3, none⟩ = some (.slice AC i cc)) := Lib.hid (HQ.out.lay.cellB 0 rfl 3 (by omega))
      go_wp2
      refine wp_held_mask (fun W => W.cell? ⟨g, 3, none⟩ = some (.slice AC i cc)) [true, true, true, true, true, true, false, false, false, false, false, false] ?A1 (by kernel_rfl) rfl (by kernel_rfl) (by repeat' (first | (with_reducible apply tame_then) | (with_reducible apply tame_block) | (with_reducible apply tame_scope) | exact tame_gives | exact tame_body (fun _ _ h => ⟨_, h.1⟩))) HS0.out ?head ?tail
      case head =>
        intro W5 s0
        simp only [pick]
        go_wp2
        exact taken
      case tail =>
        simp only [pick, List.map_cons, List.map_nil, Bool.not_true, Bool.not_false]
        refine tail_step ?_
        refine wpList_mk1 rfl (.tmp 35) (.tmp 35) _ rfl 3 iI _ 8 Try.underlying32 hiI hzI0 hzI1 hzI2 rfl .i64 .i64 n rfl rfl (by omega) (by unfold maxLen; omega) wr.heap.size _ rfl (Nat.le_refl _) ?_
        intro w3 ho3 he3
        have HQ3 : Hid (LayQ w w3 (rowsI g gt cc cm n i i AC AM bc f [blkH br zeroHL]) (mapsI i bc) tyC (fput f (.inl (.inr i)) (.slice (some ⟨wr.heap.size, 0, none⟩) n n)) (qI n (i + 1))) := Lib.hid (by rw [he3]; exact mk_clock HQ.out.drew hn)
        clear ho3 he3 HS0
        refine holds (HQ3.out.lay.cellB 0 rfl 3 (by omega)) ?_
        refine tail_step ?_
        go_wp2
        have HQA := Lib.hid (HQ3.out.alloc (.cells #[.slice (some ⟨wr.heap.size, 0, none⟩) n n] 32))
        refine holds (HQA.out.lay.cellB 0 rfl 3 (by omega)) ?_
        refine tail_step ?_
        refine wpList_ap1 rfl (.tmp 34) (.tmp 37) _ rfl 32 iS _ 24 Try.underlying24 hiS hzS0 hzS1 hzS2 rfl w.heap.size rfl (HQA.out.lay.own 3 _ rfl) rfl (cell_new _ _ _ _ _ rfl (one_cell _)) (fun _ _ => rfl) (fun j => fput f (.inl (.inr i)) (.slice (some ⟨wr.heap.size, 0, none⟩) n n) (.inl (.inr j))) (fun j hj => fput_ne (fun e => by have := Sum.inr.inj (Sum.inl.inj e); omega)) (one_at (fput_same _ _ _)) (i + 1) rfl (by unfold maxLen; omega) (by omega) HQA.out.size ?_
        intro A2 cap2 w4 ho hg ha
        have H4 := Lib.hid (HQA.out.app 3 rfl ho hg ha)
        clear ho hg ha HQA HQ3 HQ
        refine holds (H4.out.lay.cellB 0 rfl 3 (by omega)) ?_
        refine tail_step ?_
        go_wp2
        refine holds (H4.out.lay.cellB 0 rfl 3 (by omega)) ?_
        refine tail_step ?_
        go_wp2
        refine holds (H4.out.lay.cellB 0 rfl 3 (by omega)) ?_
        refine tail_last ?_
        have f3 := H4.out.lay.frz 0 rfl (by omega) 3
        have c3 : w4.cell? ⟨g, 3, none⟩ = some (.slice AC i cc) := H4.out.lay.cellB 0 rfl 3 (by omega)
        have HL5 : Hid (LayI g gt cap2 cm n (i + 1) i A2 AM bc [blkH br zeroHL] w (fput f (.inl (.inr i)) (.slice (some ⟨wr.heap.size, 0, none⟩) n n)) (w4.setCell ⟨g, 3, none⟩ (.slice A2 (i + 1) cap2))) := Lib.hid (by
          have h5 := H4.out.fld 0 3 (.slice A2 (i + 1) cap2) rfl (by omega) (by simp)
          show LayQ w _ (rowsI g gt cap2 cm n (i + 1) i A2 AM bc (fput f (.inl (.inr i)) (.slice (some ⟨wr.heap.size, 0, none⟩) n n)) [blkH br zeroHL]) _ tyC _ _
          unfold rowsI
          rw [show (fun j => fput f (.inl (.inr i)) (.slice (some ⟨wr.heap.size, 0, none⟩) n n) (.inl (.inl j))) = fun j => f (.inl (.inl j)) from funext fun j => fput_ne (by simp), show msgF (fput f (.inl (.inr i)) (.slice (some ⟨wr.heap.size, 0, none⟩) n n)) CaS0 = msgF f CaS0 from funext fun j => by unfold msgF; rw [fput_ne (by simp)]]
          exact h5)
        have c4 : w4.cell? ⟨g, 4, none⟩ = some (.slice AM i cm) := H4.out.lay.cellB 0 rfl 4 (by omega)
        have HM : Hid (LayQ w ((w4.setCell ⟨g, 3, none⟩ (.slice A2 (i + 1) cap2)).alloc (.map #[] 0)) (rowsI g gt cap2 cm n (i + 1) i A2 AM bc (fput f (.inl (.inr i)) (.slice (some ⟨wr.heap.size, 0, none⟩) n n)) [blkH br zeroHL]) (mapsI i bc ++ [⟨w4.heap.size, comeE (fun _ => false)⟩]) tyC (fput f (.inl (.inr i)) (.slice (some ⟨wr.heap.size, 0, none⟩) n n)) (qI n (i + 1))) := Lib.hid (HL5.out.newM _ comeE_zero w4.heap.size (by simp))
        rw [maps_next] at HM
        have HMA := Lib.hid (HM.out.alloc (.cells #[.map (some w4.heap.size)] 47))
        clear H4 HM HL5
        generalize fput f (.inl (.inr i)) (.slice (some ⟨wr.heap.size, 0, none⟩) n n) = f6 at HMA
        go_wp2_with (first
          | (at_builtin; refine wpList_ap1 rfl (.tmp 45) (.tmp 47) _ rfl 47 iM _ 8 Try.underlying44 hiM hzM0 hzM1 hzM2 rfl w.heap.size rfl (HMA.out.lay.own 4 _ rfl) rfl (cell_new _ _ _ _ _ (by simp) (one_cell _)) (fun _ _ => rfl) (fun j => .map (some (upd bc i w4.heap.size j))) (fun j hj => by rw [upd_ne _ _ (by omega)]) (one_at (by rw [Nat.add_zero, upd_same])) (i + 1) rfl (by unfold maxLen; omega) (by omega) HMA.out.size ?_
             intro A6 cap6 w6 ho hg ha
             have H6 := Lib.hid (HMA.out.app 4 rfl ho hg ha)
             clear ho hg ha HMA
             have e4 : w6.cell? ⟨g, 4, none⟩ = some (.slice AM i cm) := H6.out.lay.cellB 0 rfl 4 (by omega)
             have f4 := H6.out.lay.frz 0 rfl (by omega) 4
             have HL7 : Hid (LayI g gt cap2 cap6 n (i + 1) (i + 1) A2 A6 (upd bc i w4.heap.size) [blkH br zeroHL] w f6 (w6.setCell ⟨g, 4, none⟩ (.slice A6 (i + 1) cap6))) := Lib.hid (H6.out.fld 0 4 (.slice A6 (i + 1) cap6) rfl (by omega) (by simp))
             clear H6)
          | fail)
        go_roundw
        case rel => exact ⟨i + 1, _, _, _, _, _, _, by omega, by go_num, HL7⟩
        case measure => simp [intOf]; omega
    · obtain rfl : i = n := by omega
      obtain ⟨gc, gm, rfl, rfl, hL⟩ := layI_done HQ.out hn1
      have HL4 : Hid (LayC g 0 gt gc cc gm cm i none bc [lstC none 0 0 (caC i M), blkH br zeroHL] w f (caE i M 0) wr) := Lib.hid (by
        have h1 := (LayQ.lnil hL 27 1 (fun k => .int .i64 (caC i M k)))
        exact h1.perm [1, 2, 3, 4, 5, 0, 6] (by decide) rfl)
      clear hL HQ
      go_wp2
      go_loopw [7, 54] (fun cv v wr => ∃ (j : Nat) (f : FC → Value) (cl : Nat) (AL AC : Option Addr) (cC : Nat), j ≤ m ∧ v = .int .i64 j ∧ cv = .slice AC j cC ∧ Hid (LayC g cl gt gc cc gm cm i AL bc [lstC AC j cC (caC i M), blkH br zeroHL] w f (caE i M j) wr)) (fun _ v _ => m - (intOf v).toNat)
      case atStart => exact ⟨0, _, _, _, none, 0, by omega, rfl, rfl, HL4⟩
      case round =>
        clear HL4
        obtain ⟨j, f, cl, AL, AC, cC, hj, rfl, rfl, HQ⟩ := hrel
        by_cases hlt : j < m
        · obtain ⟨ad, rfl, hbl, m0, m1, m2, m3⟩ := (HR.out.below (HQ.out.lay.bel.mono hB)).rec4 hlt
          clear hbl
          have HQ1 := Lib.hid ((HQ.out.newB [.int .i64 (M.k j), .int .i64 (M.f j), .int .i64 (M.t j), .int .i64 (M.v j)] 34 4 rfl _ rfl).rot5)
          go_wp2_with fail
          refine at_layQ (F := fun W' => Calls _ _ _ W' _) HQ1.out ?_
          intro W hW
          have HW : Hid (LayC g cl gt gc cc gm cm i AL bc [mvB wr.heap.size (M.k j) (M.f j) (M.t j) (M.v j), lstC AC j cC (caC i M), blkH br zeroHL] w f (caE i M j) W) := Lib.hid hW
          clear hW HQ1 HQ m0 m1 m2 m3
          generalize wr.heap.size = x at HW ⊢
          refine (doC_any g cl gt gc cc gm cm i AL bc [mvB x (M.k j) (M.f j) (M.t j) (M.v j), lstC AC j cC (caC i M), blkH br zeroHL] w f (caE i M j) W j (M.k j) (M.f j) (M.t j) (M.v j) hn1 hn (by omega) (caE_B i M j) HW.out).mono ?_
          rintro e w3 ⟨rfl, f3, cl3, AL3, h3⟩
          have H3 : Hid (LayC g cl3 gt gc cc gm cm i AL3 bc [mvB x (M.k j) (M.f j) (M.t j) (M.v j), lstC AC j cC (caC i M), blkH br zeroHL] w f3 (caE i M (j + 1)) w3) := Lib.hid h3
          clear h3 HW
          have hcode : (caStep i (M.k j) (M.f j) (M.t j) (M.v j) (caE i M j)).1 = caC i M j := rfl
          rw [hcode]
          clear hcode
          go_wp2_with (first
            | (at_builtin; refine wpList_ap1 rfl (.tmp 58) (.tmp 62) _ rfl 27 iE _ 8 Try.underlying23 hiE hzE0 hzE1 hzE2 rfl w.heap.size rfl ((H3.out.lay.alloc _).own 6 _ rfl) rfl (cell_new _ _ _ _ _ rfl (one_cell _)) (fun _ _ => rfl) (fun k => .int .i64 (caC i M k)) (fun _ _ => rfl) (one_at rfl) (j + 1) rfl (by unfold maxLen; omega) (by omega) (by have := H3.out.size; simp; omega) ?_
               intro A2 cap2 w4 ho hg ha
               have H4 := Lib.hid (((H3.out.alloc _).app 6 rfl ho hg ha).drop5)
               clear ho hg ha H3)
            | fail)
          go_roundw
          case rel => exact ⟨j + 1, f3, cl3, AL3, A2, cap2, by omega, by go_num, rfl, H4⟩
          case measure => simp [intOf]; omega
        · obtain rfl : j = m := by omega
          obtain ⟨-, -, c2, -, -⟩ := ca_heads HQ.out
          have r0 := HQ.out.lay.cellB 6 rfl 0 (by omega)
          have r1 := HQ.out.lay.cellB 6 rfl 1 (by omega)
          simp only [ofL_0, ofL_1] at r0 r1
          have f0 := HQ.out.lay.frz 6 rfl (by omega) 0
          have f1 := HQ.out.lay.frz 6 rfl (by omega) 1
          have HF : Hid (LayC g cl gt gc cc gm cm i AL bc [lstC AC j cC (caC i M), blkH br [.slice AC j cC, .slice (some ⟨gt, 0, none⟩) i i]] w f (caE i M j) ((wr.setCell ⟨br, 0, none⟩ (.slice AC j cC)).setCell ⟨br, 1, none⟩ (.slice (some ⟨gt, 0, none⟩) i i))) := Lib.hid ((HQ.out.fld 6 0 (.slice AC j cC) rfl (by omega) (by simp)).fld 6 1 (.slice (some ⟨gt, 0, none⟩) i i) rfl (by omega) (by simp))
          clear HQ
          go_wp2
          have HF2 := HF.out
          clear r0 r1 f0 f1 HF c2
          generalize (wr.setCell ⟨br, 0, none⟩ (.slice AC j cC)).setCell ⟨br, 1, none⟩ (.slice (some ⟨gt, 0, none⟩) i i) = W8 at HF2 ⊢
          have r0 : W8.cell? ⟨br, 0, none⟩ = some (.slice AC j cC) := HF2.lay.cellB 6 rfl 0 (by omega)
          have r1 : W8.cell? ⟨br, 1, none⟩ = some (.slice (some ⟨gt, 0, none⟩) i i) := HF2.lay.cellB 6 rfl 1 (by omega)
          exact bodyPost_ret (v := .tuple #[.agg #[.slice AC j cC, .slice (some ⟨gt, 0, none⟩) i i], .int .i64 0]) (by simp [results, Try.results6, go_sem, r0, r1]) rfl ⟨_, rfl, g, cl, gt, gc, cc, gm, cm, AL, bc, f, AC, cC, rfl, br, HF2⟩
end
end Go.Proofs.Ytiljnddjecbmfaa
