/- The blocks of a watched place; the walk of fire. -/
import Derived.Test.YtfdgjbanajodfaaDoorWaMath
import Derived.Test.YtfdgjbanajodfaaDoorPermL
import Derived.Test.YtfdgjbanajodfaaDoorEMap
import Derived.Test.YtfdgjbanajodfaaDoorText
set_option linter.unusedVariables false
set_option linter.unusedSimpArgs false
namespace Go.Proofs.YtfdgjbanajodfaaDoor
open Go.RowKit

abbrev rowPl (pb tb mb gn : Nat) : LRow := blk pb 68 3 (ofL [.pointer (some ⟨tb, 0, none⟩), .map (some mb), .slice (some ⟨gn, 0, none⟩) 6 6])
def kF (K : Nat → WKey) (j : Nat) : Value := ofL [.int .i64 ((K (j / 3)).1 : Nat), .int .i64 ((K (j / 3)).2.1 : Nat), .string (bs (K (j / 3)).2.2)] (j % 3)
theorem kF_at (K : Nat → WKey) (k : Nat) : kF K (k * 3) = .int .i64 ((K k).1 : Nat) ∧ kF K (k * 3 + 1) = .int .i64 ((K k).2.1 : Nat) ∧ kF K (k * 3 + 2) = .string (bs (K k).2.2) := by
  refine ⟨?_, ?_, ?_⟩ <;> unfold kF
  · rw [show k * 3 / 3 = k by omega, show k * 3 % 3 = 0 by omega]; rfl
  · rw [show (k * 3 + 1) / 3 = k by omega, show (k * 3 + 1) % 3 = 1 by omega]; rfl
  · rw [show (k * 3 + 2) / 3 = k by omega, show (k * 3 + 2) % 3 = 2 by omega]; rfl
abbrev rowKs (A : Option Addr) (n cap : Nat) (K : Nat → WKey) : LRow := ⟨A, 72, 3, n, cap, kF K⟩
theorem fire_app (f : Bool) : ∀ (a l b : List WKey), fireW f l (a ++ b) = fireW (fireW f l a).1 (fireW f l a).2 b
  | [], _, _ => rfl
  | k :: a, l, b => fire_app _ a (l.erase k) b
def fK (K : Nat → WKey) (l : List WKey) (k : Nat) : Bool × List WKey := fireW false l ((List.range k).map K)
theorem fK_next (K : Nat → WKey) (l : List WKey) (k : Nat) : fK K l (k + 1) = ((fK K l k).1 || decide (K k ∈ (fK K l k).2), (fK K l k).2.erase (K k)) := by
  unfold fK
  rw [List.range_succ, List.map_append, fire_app]
  rfl
theorem SetW.lookW {l : List WKey} {w0 w : World} {L : List LRow} {Q : List MRow} {b i : Nat} (h : LayM w0 w L Q) (hi : Q[i]? = some ⟨b, SetW l⟩) (p : WKey) (hp : KeyOkW p) :
    ∀ W, W.heap = w.heap → (Instr.lookup 66 (.map (some b)) (keyW p) false).run Tryd.prog W = .ok (.bool (decide (p ∈ l))) W := by
  obtain ⟨es, c, hb, hs⟩ := h.mp i hi
  intro W hW
  have hs : SetW l es c := hs
  exact hs.look (w := W) (by rw [hW]; exact hb) p hp
set_option maxRecDepth 100000 in
set_option maxHeartbeats 1600000 in
theorem fire_any (pb tb mb gn n cap : Nat) (A : Option Addr) (K : Nat → WKey) (l : List WKey) (R : List LRow) (Q : List MRow) (w0 w : World) (hn : n ≤ 3) (hK : ∀ i, i < n → KeyOkW (K i)) (h : LayM w0 w (rowKs A n cap K :: rowPl pb tb mb gn :: R) (⟨mb, SetW l⟩ :: Q)) :
    Calls Tryd.prog 28 #[.pointer (some ⟨pb, 0, none⟩), .slice A n cap] w (Gives fun v w' => v = .bool (fK K l n).1 ∧ LayM w0 w' (rowKs A n cap K :: rowPl pb tb mb gn :: R) (⟨mb, SetW (fK K l n).2⟩ :: Q)) := by
  have HM := Lib.hid h
  have HK := Lib.hid hK
  clear h hK
  go_enter Tryd.func28, Tryd.ntmps28
  go_wp2
  go_loopw [5, 10] (fun f i wr => ∃ (k : Nat), k ≤ n ∧ i = .int .i64 (k : Nat) ∧ f = .bool (fK K l k).1 ∧ Hid (LayM w0 wr (rowKs A n cap K :: rowPl pb tb mb gn :: R) (⟨mb, SetW (fK K l k).2⟩ :: Q))) (fun _ i _ => n - (intOf i).toNat)
  case atStart => exact ⟨0, by omega, rfl, rfl, HM⟩
  case round =>
    clear HM
    obtain ⟨k, hk, rfl, rfl, HQ⟩ := hrel
    have HN := Lib.hid (fK_next K l k)
    obtain ⟨f, hf⟩ : ∃ f, (fK K l k).1 = f := ⟨_, rfl⟩
    obtain ⟨l1, hl⟩ : ∃ l1, (fK K l k).2 = l1 := ⟨_, rfl⟩
    have HF := Lib.hid hf
    have HL := Lib.hid hl
    rw [hl] at HQ HN
    rw [hf] at HN
    simp only [hf]
    clear hf hl
    by_cases hlt : k < n
    · obtain ⟨ga, eA, -, -, hc, -⟩ := (HQ.out.lay.own 0 _ rfl).pos (show 0 < n by omega)
      have eA : A = some ⟨ga, 0, none⟩ := eA
      subst eA
      obtain ⟨d0, d1, d2⟩ := kF_at K k
      have m0 := (hc (k * 3) (by show k * 3 < n * 3; omega)).trans (congrArg some d0)
      have m1 := (hc (k * 3 + 1) (by show _ < n * 3; omega)).trans (congrArg some d1)
      have m2 := (hc (k * 3 + 2) (by show _ < n * 3; omega)).trans (congrArg some d2)
      clear hc d0 d1 d2
      go_upto_region 5 with (fail)
      refine at_layM (F := fun W' => Code.wp _ _ _ _ W') (HQ.out.newB [.int .i64 ((K k).1 : Nat), .int .i64 ((K k).2.1 : Nat), .string (bs (K k).2.2)] 72 3 rfl _ rfl) ?_
      intro W hW
      have HW := Lib.hid hW
      clear hW HQ m0 m1 m2
      generalize wr.heap.size = t7 at HW ⊢
      have p1 := HW.out.lay.cellB 2 rfl 1 (by omega)
      have k0 := HW.out.lay.cellB 0 rfl 0 (by omega)
      have k1 := HW.out.lay.cellB 0 rfl 1 (by omega)
      have k2 := HW.out.lay.cellB 0 rfl 2 (by omega)
      simp only [ofL_0, ofL_1, ofL_2] at p1 k0 k1 k2
      have HLK := Lib.hid (SetW.lookW HW.out (i := 0) rfl (K k) (HK.out k hlt))
      have hdel := HW.out.drew.drew.delW 0 mb l1 rfl (K k) (HK.out k hlt)
      have HDEL := Lib.hid hdel
      clear hdel
      obtain ⟨b, hb⟩ : ∃ b, decide (K k ∈ l1) = b := ⟨_, rfl⟩
      rw [hb] at HLK HN
      clear hb
      have hlk : (Instr.lookup 66 (.map (some mb)) (.agg #[.int .i64 ((K k).1 : Nat), .int .i64 ((K k).2.1 : Nat), .string (bs (K k).2.2)]) false).run Tryd.prog W.drew = .ok (.bool b) W.drew := HLK.out _ rfl
      clear HLK
      cases f
      · go_wp2
        refine wp_text_all (by kernel_rfl) (by kernel_rfl) (by kernel_rfl) (by repeat' (first | (with_reducible apply tame_then) | (with_reducible apply tame_block) | (with_reducible apply tame_scope) | exact tame_gives | exact tame_body (fun _ _ h => ⟨_, h.1⟩))) ?_
        go_wp2
        refine headed ?_
        go_wp2_with fail
        refine wp_text 5 (by kernel_rfl) (by kernel_rfl) (by kernel_rfl) (by repeat' (first | (with_reducible apply tame_then) | (with_reducible apply tame_block) | (with_reducible apply tame_scope) | exact tame_gives | exact tame_body (fun _ _ h => ⟨_, h.1⟩))) ?_
        simp only [List.take_succ_cons, List.take_zero, List.drop_succ_cons, List.drop_zero]
        go_wp2
        refine headed ?_
        at_delete
        obtain ⟨W2, hrun, hd⟩ := HDEL.out
        refine wpList_delC rfl (.tmp 26) (.tmp 27) _ _ rfl rfl rfl (hrun _) ?_
        have HX := Lib.hid hd.tl
        clear hd hrun HDEL
        go_wp2
        go_roundw
        case rel => exact ⟨k + 1, by omega, by go_num, by first | (rw [HN.out]; done) | (rw [HN.out]; rfl), Lib.hid (by rw [HN.out]; exact HX.out)⟩
        case measure => simp [intOf]; omega
      · go_wp2
        refine wp_text_all (by kernel_rfl) (by kernel_rfl) (by kernel_rfl) (by repeat' (first | (with_reducible apply tame_then) | (with_reducible apply tame_block) | (with_reducible apply tame_scope) | exact tame_gives | exact tame_body (fun _ _ h => ⟨_, h.1⟩))) ?_
        go_wp2
        refine headed ?_
        go_wp2_with fail
        refine wp_text 5 (by kernel_rfl) (by kernel_rfl) (by kernel_rfl) (by repeat' (first | (with_reducible apply tame_then) | (with_reducible apply tame_block) | (with_reducible apply tame_scope) | exact tame_gives | exact tame_body (fun _ _ h => ⟨_, h.1⟩))) ?_
        simp only [List.take_succ_cons, List.take_zero, List.drop_succ_cons, List.drop_zero]
        go_wp2
        refine headed ?_
        at_delete
        obtain ⟨W2, hrun, hd⟩ := HDEL.out
        refine wpList_delC rfl (.tmp 26) (.tmp 27) _ _ rfl rfl rfl (hrun _) ?_
        have HX := Lib.hid hd.tl
        clear hd hrun HDEL
        go_wp2
        go_roundw
        case rel => exact ⟨k + 1, by omega, by go_num, by first | (rw [HN.out]; done) | (rw [HN.out]; rfl), Lib.hid (by rw [HN.out]; exact HX.out)⟩
        case measure => simp [intOf]; omega
    · obtain rfl : n = k := by omega
      go_wp2
      go_ret
      exact ⟨_, rfl, by rw [HF.out]; rfl, by rw [HL.out]; exact HQ.out⟩
end Go.Proofs.YtfdgjbanajodfaaDoor
