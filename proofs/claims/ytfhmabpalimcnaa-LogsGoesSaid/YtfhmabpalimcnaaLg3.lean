/- The walks of logs' 'good', 'lead', 'stand', 'vote'. -/
import Derived.Test.YtfhmabpalimcnaaLg2
set_option linter.unusedVariables false
set_option linter.unusedSimpArgs false
namespace Go.Proofs.Ytfhmabpalimcnaa
open Go.RowKit

section
variable (gg g gl lo n : Nat) (s : LS) (A : Option Addr) (cap : Nat) (a : LA) (R : List LRow) (w0 w : World)
/-- One comes to lead: what it has of the others is new. -/
def leadA (i b b' : Nat) (n : Nat) (a : LA) : LA := { a with hA := upd a.hA i (some ⟨b, 0, none⟩), hn := upd a.hn i n, hc := upd a.hc i n, nA := upd a.nA i (some ⟨b', 0, none⟩), nn := upd a.nn i n, nc := upd a.nc i n }
def lead1A (i b : Nat) (n : Nat) (a : LA) : LA := { a with hA := upd a.hA i (some ⟨b, 0, none⟩), hn := upd a.hn i n, hc := upd a.hc i n }
def lead1S (i : Nat) (s : LS) : LS := { s with ha := upd s.ha i (fun _ => 0) }
theorem same_or {α : Type} {p : Prop} (x : α) : x = x ∨ p := .inl rfl
theorem same3_or {α β γ : Type} {p : Prop} (x : α) (y : β) (z : γ) : (x = x ∧ y = y ∧ z = z) ∨ p := .inl ⟨rfl, rfl, rfl⟩
theorem lg_ha {i b : Nat} (h : Lay w0 w (arr b 3 n (fun _ => .int .i64 0) :: rowsG gg g gl lo n s A cap a R)) (hi : i < n) :
    Lay w0 (w.setCell ⟨lo, i * 4 + 2, none⟩ (.slice (some ⟨b, 0, none⟩) n n)) (rowsG gg g gl lo n (lead1S i s) A cap (lead1A i b n a) R) := by
  have h1 : Lay w0 w (rowsF gg g gl lo n s.e A cap (lgF a s) (famR (lead1A i b n a) (lead1S i s)) R) := lg_fam h (m := i * 3 + 1) (by omega) (by rw [famR_1]; show LRow.mk (upd a.hA i _ i) _ _ (upd a.hn i n i) (upd a.hc i n i) (fun j => .int .i64 (upd s.ha i _ i j : Nat)) = _; rw [upd_same, upd_same, upd_same, upd_same]; rfl)
    (fam_upd (by omega) (fun j => same_or _) (fun j => by
      by_cases e : j = i
      · exact .inr ⟨rfl, e⟩
      · left
        show LRow.mk (upd a.hA i _ j) _ _ (upd a.hn i n j) (upd a.hc i n j) (fun k => .int .i64 (upd s.ha i _ j k : Nat)) = _
        rw [upd_ne _ _ e, upd_ne _ _ e, upd_ne _ _ e, upd_ne _ _ e]) (fun j => same_or _))
  refine lg_setF (c := 2) (by omega) h1 hi (by rw [lgF_2]; show Value.slice (upd a.hA i _ i) (upd a.hn i n i) (upd a.hc i n i) = _; rw [upd_same, upd_same, upd_same]) (lgF_upd (fun j => same3_or ..) (fun j => same_or _) (fun j => ?_) (fun j => same3_or ..))
  by_cases e : j = i
  · exact .inr ⟨rfl, e⟩
  · exact .inl ⟨upd_ne _ _ e, upd_ne _ _ e, upd_ne _ _ e⟩
theorem lg_nx {i b b' : Nat} {x : Nat} (h : Lay w0 w (arr b' 3 n (fun _ => .int .i64 (x : Nat)) :: rowsG gg g gl lo n (lead1S i s) A cap (lead1A i b n a) R)) (hi : i < n) (hx : x = (s.lg i).length) :
    Lay w0 (w.setCell ⟨lo, i * 4 + 3, none⟩ (.slice (some ⟨b', 0, none⟩) n n)) (rowsG gg g gl lo n (leadL i s) A cap (leadA i b b' n a) R) := by
  subst hx
  have h1 : Lay w0 w (rowsF gg g gl lo n s.e A cap (lgF (lead1A i b n a) (lead1S i s)) (famR (leadA i b b' n a) (leadL i s)) R) := lg_fam h (m := i * 3 + 2) (by omega) (by rw [famR_2]; show LRow.mk (upd a.nA i _ i) _ _ (upd a.nn i n i) (upd a.nc i n i) (fun j => .int .i64 (upd s.nx i _ i j : Nat)) = _; rw [upd_same, upd_same, upd_same, upd_same])
    (fam_upd (by omega) (fun j => same_or _) (fun j => same_or _) (fun j => by
      by_cases e : j = i
      · exact .inr ⟨rfl, e⟩
      · left
        show LRow.mk (upd a.nA i _ j) _ _ (upd a.nn i n j) (upd a.nc i n j) (fun k => .int .i64 (upd s.nx i _ j k : Nat)) = _
        rw [upd_ne _ _ e, upd_ne _ _ e, upd_ne _ _ e, upd_ne _ _ e]; rfl))
  refine lg_setF (c := 3) (by omega) h1 hi (by rw [lgF_3]; show Value.slice (upd a.nA i _ i) (upd a.nn i n i) (upd a.nc i n i) = _; rw [upd_same, upd_same, upd_same]) (lgF_upd (fun j => same3_or ..) (fun j => same_or _) (fun j => same3_or ..) (fun j => ?_))
  by_cases e : j = i
  · exact .inr ⟨rfl, e⟩
  · exact .inl ⟨upd_ne _ _ e, upd_ne _ _ e, upd_ne _ _ e⟩
theorem LdOk.lead {n : Nat} {a : LA} {s : LS} (h : LdOk n a s) (i b b' : Nat) : LdOk n (leadA i b b' n a) (leadL i s) := by
  intro j hj
  have hj : upd s.ld i true j = true := hj
  show upd a.hn i n j = n ∧ upd a.nn i n j = n
  by_cases e : j = i
  · subst e; rw [upd_same, upd_same]; exact ⟨rfl, rfl⟩
  · rw [upd_ne _ _ e] at hj
    rw [upd_ne _ _ e, upd_ne _ _ e]; exact h j hj
set_option maxRecDepth 100000 in
set_option maxHeartbeats 1000000 in
theorem lead_any (i : Nat) (hi : i < n) (hn : n ≤ 6) (hl : (s.lg i).length ≤ 30) (h : Lay w0 w (rowsG gg g gl lo n s A cap a R)) :
    Calls Try.prog 26 #[.pointer (some ⟨gg, 0, none⟩), .int .i64 i] w fun e w' => e = .returned (.tuple #[]) ∧ ∃ b b', Lay w0 w' (rowsG gg g gl lo n (leadL i s) A cap (leadA i b b' n a) R) := by
  have H := Lib.hid h; clear h
  obtain ⟨iI, hiI, hzI0, hzI1, hzI2⟩ := info_parts infoIntLg
  obtain ⟨d0, d1⟩ := lg_heads H.out
  have hgl := (H.out.at_ 3 rfl).2
  go_enter Try.func26, Try.ntmps26
  go_wp2
  refine wp_held_mask (fun W => W.cell? ⟨gg, 1, none⟩ = some (.slice (some ⟨lo, 0, none⟩) n n)) [true, true, true, true, true, true, true, true, true, true, false, false, false, false] ?A1 (by kernel_rfl) rfl (by kernel_rfl) (by repeat' (first | (with_reducible apply tame_then) | (with_reducible apply tame_block) | (with_reducible apply tame_scope) | exact tame_gives | exact tame_body (fun _ _ h => ⟨_, h.1⟩))) d1 ?head ?tail
  case head =>
    intro W5 s0
    simp only [pick]
    go_wp2
    exact taken
  case tail =>
    simp only [pick, List.map_cons, List.map_nil, Bool.not_true, Bool.not_false]
    refine tail_step ?_
    refine wpList_mk1 rfl (.tmp 13) (.tmp 13) _ rfl 3 iI _ 8 Try.underlying24 hiI hzI0 hzI1 hzI2 rfl .i64 .i64 n rfl rfl (by omega) (by unfold maxLen; omega) w.heap.size _ rfl (Nat.le_refl _) ?_
    intro w2 _ he2
    have H2 := Lib.hid (he2 ▸ (H.out.drew.make (.int .i64 0) rfl n (by unfold maxLen; omega) 3 (fun _ => .int .i64 0) (fun _ _ => rfl) w.heap.size rfl))
    have d1' : w2.cell? ⟨gg, 1, none⟩ = some (.slice (some ⟨lo, 0, none⟩) n n) := H2.out.cellB 4 rfl 1 (by omega)
    have fz := H2.out.frz 5 rfl (by omega) (i * 4 + 2)
    have c2' := (lg_cells (H2.out.tail) hi).2.2.1
    have H3 := Lib.hid (lg_ha gg g gl lo n s A cap a R w0 w2 H2.out hi)
    clear he2 H2 H d0 d1
    refine holds d1' ?_
    refine tail_step ?_
    go_wp2
    refine holds d1' ?_
    refine tail_step ?_
    go_wp2
    refine holds d1' ?_
    refine tail_last ?_
    go_wp2
    refine at_lay (F := fun W' => Code.wp _ _ _ _ W') (H3.out.sim ⟨rfl, rfl, rfl, rfl⟩) ?_
    intro W hW
    have HW := Lib.hid hW
    clear hW H3 d1' fz c2' hgl
    generalize w.heap.size = b at HW ⊢
    obtain ⟨d0, d1⟩ := lg_heads HW.out
    obtain ⟨c0, -, -, -⟩ := lg_cells HW.out (i := i) hi
    have c0 : W.cell? ⟨lo, i * 4, none⟩ = some (.slice (a.A i) (s.lg i).length (a.c i)) := c0
    have hgl := (HW.out.at_ 3 rfl).2
    have hlo := (HW.out.at_ 4 rfl).2
    obtain ⟨L, hL⟩ : ∃ L, (s.lg i).length = L := ⟨_, rfl⟩
    rw [hL] at c0 hl
    have HLL := Lib.hid hL
    clear hL
    refine wp_held_mask (fun W => W.cell? ⟨gg, 1, none⟩ = some (.slice (some ⟨lo, 0, none⟩) n n) ∧ W.cell? ⟨lo, i * 4, none⟩ = some (.slice (a.A i) L (a.c i))) [true, true, true, true, true, true, true, true, true, true, true, true, true, true, false, true, true, true, true, true, false, false, false, false] ?A2 (by kernel_rfl) rfl (by kernel_rfl) (by repeat' (first | (with_reducible apply tame_then) | (with_reducible apply tame_block) | (with_reducible apply tame_scope) | exact tame_gives | exact tame_body (fun _ _ h => ⟨_, h.1⟩))) ⟨d1, c0⟩ ?head2 ?tail2
    case head2 =>
      intro W5 ⟨s0, s1⟩
      simp only [pick]
      go_wp2
      exact taken
    case tail2 =>
      simp only [pick, List.map_cons, List.map_nil, Bool.not_true, Bool.not_false]
      refine tail_step ?_
      go_wp2
      refine holds ⟨(World.cell?_alloc_lt _ _ _ hgl).trans d1, (World.cell?_alloc_lt _ _ _ hlo).trans c0⟩ ?_
      refine tail_step ?_
      go_wp2_with fail
      refine (repI_any L n (by omega) hn ⟨W.heap.size, 0, none⟩ 1 _ (by first | exact World.cell?_alloc_at _ _ _ _ rfl | (refine (World.cell?_alloc_at _ _ _ _ rfl).trans ?_; rfl)) (Nat.le_refl _)).mono ?_
      rintro e w3 ⟨v, rfl, rfl, hri⟩
      have H4 : Lay w0 w3 (rowsG gg g gl lo n (lead1S i s) A cap (lead1A i b n a) R) := (HW.out.drew.alloc _).keep hri.bel
      have ho := hri.own hn
      have hsz : (W.alloc (.cells #[.int .i64 (L : Nat)] 3)).drew.heap.size = W.heap.size + 1 := by
        show (W.alloc (.cells #[.int .i64 (L : Nat)] 3)).heap.size = _
        simp
      rw [hsz] at ho ⊢
      have H5 := Lib.hid (H4.cons (r := arr (W.heap.size + 1) 3 n (fun _ => .int .i64 (L : Nat))) (ho.base_le (by have := HW.out.size; omega)) (fun k r hk => .inr fun e => by
        have := (HW.out.lt hk (W.heap.size + 1) e.symm).2
        omega))
      have d1' := (lg_heads H4).2
      have c0' : w3.cell? ⟨lo, i * 4, none⟩ = some (.slice (a.A i) L (a.c i)) := (lg_cells H4 hi).1.trans (by rw [← HLL.out]; rfl)
      have fz := H5.out.frz 5 rfl (by omega) (i * 4 + 3)
      have H6 := Lib.hid (lg_nx gg g gl lo n s A cap a R w0 w3 H5.out hi HLL.out.symm)
      have c3' := (lg_cells H4 hi).2.2.2
      clear H5 H4 HW d0 d1 c0 ho hri hgl hlo hsz
      go_wp2
      refine holds ⟨d1', c0'⟩ ?_
      refine tail_step ?_
      go_wp2
      refine holds ⟨d1', c0'⟩ ?_
      refine tail_step ?_
      go_wp2
      refine holds ⟨d1', c0'⟩ ?_
      refine tail_last ?_
      go_wp2
      go_end0
      exact ⟨rfl, b, W.heap.size + 1, H6.out⟩
end
end Go.Proofs.Ytfhmabpalimcnaa
