/- The walks of elect's small functions. -/
import Derived.Test.YtfhmabpalimcnaaElMath
import Derived.Test.YtfhmabpalimcnaaLay
import Derived.Test.YtfhmabpalimcnaaText
import Derived.Test.YtfhmabpalimcnaaHeld
import Derived.Test.YtfhmabpalimcnaaOnes
import Derived.BigQuiet
import Derived.Deep.QuietTactic
set_option linter.unusedVariables false
set_option linter.unusedSimpArgs false
namespace Go.Proofs.Ytfhmabpalimcnaa
open Go.RowKit

/-- The cells of all processes, and of who has led. -/
def oneF (s : ES) (j : Nat) : Value := if j % 4 = 0 then .int .i64 (s.T (j / 4) : Nat) else if j % 4 = 1 then .int .i64 (s.R (j / 4)) else if j % 4 = 2 then .int .i64 (s.V (j / 4)) else .int .u32 (s.H (j / 4) : Nat)
theorem oneF_0 (s : ES) (i : Nat) : oneF s (i * 4) = .int .i64 (s.T i : Nat) := by
  have h1 : i * 4 % 4 = 0 := by omega
  have h2 : i * 4 / 4 = i := by omega
  simp [oneF, h1, h2]
theorem oneF_1 (s : ES) (i : Nat) : oneF s (i * 4 + 1) = .int .i64 (s.R i) := by
  have h1 : (i * 4 + 1) % 4 = 1 := by omega
  have h2 : (i * 4 + 1) / 4 = i := by omega
  simp [oneF, h1, h2]
theorem oneF_2 (s : ES) (i : Nat) : oneF s (i * 4 + 2) = .int .i64 (s.V i) := by
  have h1 : (i * 4 + 2) % 4 = 2 := by omega
  have h2 : (i * 4 + 2) / 4 = i := by omega
  simp [oneF, h1, h2]
theorem oneF_3 (s : ES) (i : Nat) : oneF s (i * 4 + 3) = .int .u32 (s.H i : Nat) := by
  have h1 : (i * 4 + 3) % 4 = 3 := by omega
  have h2 : (i * 4 + 3) / 4 = i := by omega
  simp [oneF, h1, h2]
def ledF (l : List (Nat × Nat)) (j : Nat) : Value := if j % 2 = 0 then .int .i64 ((l[j / 2]?.getD (0, 0)).1 : Nat) else .int .i64 ((l[j / 2]?.getD (0, 0)).2 : Nat)
abbrev oneR (gl n : Nat) (s : ES) : LRow := ⟨some ⟨gl, 0, none⟩, 60, 4, n, n, oneF s⟩
abbrev ledR (A : Option Addr) (cap : Nat) (l : List (Nat × Nat)) : LRow := ⟨A, 73, 2, l.length, cap, ledF l⟩
abbrev rowsE (g gl n : Nat) (s : ES) (A : Option Addr) (cap : Nat) (R : List LRow) : List LRow :=
  blk g 57 2 (ofL [.slice (some ⟨gl, 0, none⟩) n n, .slice A s.led.length cap]) :: oneR gl n s :: ledR A cap s.led :: R
section
variable {g gl n : Nat} {s : ES} {A : Option Addr} {cap : Nat} {R : List LRow} {w0 w : World}
theorem el_cells {i : Nat} (h : Lay w0 w (rowsE g gl n s A cap R)) (hi : i < n) :
    w.cell? ⟨gl, i * 4, none⟩ = some (.int .i64 (s.T i : Nat)) ∧ w.cell? ⟨gl, i * 4 + 1, none⟩ = some (.int .i64 (s.R i)) ∧ w.cell? ⟨gl, i * 4 + 2, none⟩ = some (.int .i64 (s.V i)) ∧ w.cell? ⟨gl, i * 4 + 3, none⟩ = some (.int .u32 (s.H i : Nat)) :=
  ⟨(h.cell 1 rfl (j := i * 4) (by omega)).trans (by rw [oneF_0]), (h.cell 1 rfl (j := i * 4 + 1) (by omega)).trans (by rw [oneF_1]), (h.cell 1 rfl (j := i * 4 + 2) (by omega)).trans (by rw [oneF_2]), (h.cell 1 rfl (j := i * 4 + 3) (by omega)).trans (by rw [oneF_3])⟩
theorem el_heads (h : Lay w0 w (rowsE g gl n s A cap R)) : w.cell? ⟨g, 0, none⟩ = some (.slice (some ⟨gl, 0, none⟩) n n) ∧ w.cell? ⟨g, 1, none⟩ = some (.slice A s.led.length cap) := ⟨h.cellB 0 rfl 0 (by omega), h.cellB 0 rfl 1 (by omega)⟩
theorem el_set (c : Nat) (hc : c < 4) {i : Nat} {s' : ES} {u : Value} (h : Lay w0 w (rowsE g gl n s A cap R)) (hi : i < n) (hl : s'.led = s.led) (hu : oneF s' (i * 4 + c) = u) (hf : ∀ j, j ≠ i * 4 + c → oneF s' j = oneF s j) : Lay w0 (w.setCell ⟨gl, i * 4 + c, none⟩ u) (rowsE g gl n s' A cap R) := by
  have := h.set 1 (oneF s') rfl (j := i * 4 + c) (by omega) hu (fun j _ hj => hf j hj)
  rw [show rowsE g gl n s' A cap R = (rowsE g gl n s A cap R).set 1 ⟨some ⟨gl, 0, none⟩, 60, 4, n, n, oneF s'⟩ by simp only [rowsE, List.set_cons_succ, List.set_cons_zero, hl]]
  exact this
theorem oneF_upd {s s' : ES} {i c : Nat} (hT : ∀ j, s'.T j = s.T j ∨ (c = 0 ∧ j = i)) (hR : ∀ j, s'.R j = s.R j ∨ (c = 1 ∧ j = i)) (hV : ∀ j, s'.V j = s.V j ∨ (c = 2 ∧ j = i)) (hH : ∀ j, s'.H j = s.H j ∨ (c = 3 ∧ j = i)) : ∀ j, j ≠ i * 4 + c → oneF s' j = oneF s j := by
  intro j hj
  unfold oneF
  have a := hT (j / 4)
  have b := hR (j / 4)
  have d := hV (j / 4)
  have e := hH (j / 4)
  split
  · rcases a with a | ⟨a1, a2⟩
    · rw [a]
    · omega
  split
  · rcases b with a | ⟨a1, a2⟩
    · rw [a]
    · omega
  split
  · rcases d with a | ⟨a1, a2⟩
    · rw [a]
    · omega
  · rcases e with a | ⟨a1, a2⟩
    · rw [a]
    · omega
theorem upd_or {α : Type} (f : Nat → α) (i : Nat) (x : α) (c : Nat) : ∀ j, upd f i x j = f j ∨ (c = c ∧ j = i) := by
  intro j
  rw [upd_apply]; split
  · exact .inr ⟨rfl, by assumption⟩
  · exact .inl rfl
theorem el_T {i : Nat} (x : Nat) (h : Lay w0 w (rowsE g gl n s A cap R)) (hi : i < n) : Lay w0 (w.setCell ⟨gl, i * 4, none⟩ (.int .i64 (x : Nat))) (rowsE g gl n { s with T := upd s.T i x } A cap R) :=
  el_set 0 (by omega) h hi rfl (by rw [Nat.add_zero, oneF_0]; show Value.int .i64 (upd s.T i x i : Nat) = _; rw [upd_same]) (oneF_upd (upd_or s.T i x 0) (fun _ => .inl rfl) (fun _ => .inl rfl) (fun _ => .inl rfl))
theorem el_R {i : Nat} (x : Int) (h : Lay w0 w (rowsE g gl n s A cap R)) (hi : i < n) : Lay w0 (w.setCell ⟨gl, i * 4 + 1, none⟩ (.int .i64 x)) (rowsE g gl n { s with R := upd s.R i x } A cap R) :=
  el_set 1 (by omega) h hi rfl (by rw [oneF_1]; show Value.int .i64 (upd s.R i x i) = _; rw [upd_same]) (oneF_upd (fun _ => .inl rfl) (upd_or s.R i x 1) (fun _ => .inl rfl) (fun _ => .inl rfl))
theorem el_V {i : Nat} (x : Int) (h : Lay w0 w (rowsE g gl n s A cap R)) (hi : i < n) : Lay w0 (w.setCell ⟨gl, i * 4 + 2, none⟩ (.int .i64 x)) (rowsE g gl n { s with V := upd s.V i x } A cap R) :=
  el_set 2 (by omega) h hi rfl (by rw [oneF_2]; show Value.int .i64 (upd s.V i x i) = _; rw [upd_same]) (oneF_upd (fun _ => .inl rfl) (fun _ => .inl rfl) (upd_or s.V i x 2) (fun _ => .inl rfl))
theorem el_H {i : Nat} (x : Nat) (h : Lay w0 w (rowsE g gl n s A cap R)) (hi : i < n) : Lay w0 (w.setCell ⟨gl, i * 4 + 3, none⟩ (.int .u32 (x : Nat))) (rowsE g gl n { s with H := upd s.H i x } A cap R) :=
  el_set 3 (by omega) h hi rfl (by rw [oneF_3]; show Value.int .u32 (upd s.H i x i : Nat) = _; rw [upd_same]) (oneF_upd (fun _ => .inl rfl) (fun _ => .inl rfl) (fun _ => .inl rfl) (upd_or s.H i x 3))
/-- A whole process is set. -/
theorem el_one {i t : Nat} {r v : Int} (h : Lay w0 w (rowsE g gl n s A cap R)) (hi : i < n) :
    Lay w0 ((((w.setCell ⟨gl, i * 4, none⟩ (.int .i64 (t : Nat))).setCell ⟨gl, i * 4 + 1, none⟩ (.int .i64 r)).setCell ⟨gl, i * 4 + 2, none⟩ (.int .i64 v)).setCell ⟨gl, i * 4 + 3, none⟩ (.int .u32 0)) (rowsE g gl n (setE i t r v s) A cap R) :=
  el_H 0 (el_V v (el_R r (el_T t h hi) hi) hi) hi
end

theorem infoLed : (Try.prog.info? 73).map (fun i => (i.zero, i.size, i.bytes)) = some (some (.agg #[.int .i64 0, .int .i64 0]), 2, 16) := by kernel_rfl
def twoG (a b : Nat) : Nat → Value := fun j => if j = 0 then .int .i64 (a : Nat) else .int .i64 (b : Nat)
theorem two_cells (a b : Nat) : ∀ j, j < 1 * 2 → (#[Value.int .i64 (a : Nat), .int .i64 (b : Nat)])[j]? = some (twoG a b j) := by
  intro j hj
  rcases (by omega : j = 0 ∨ j = 1) with rfl | rfl <;> rfl
theorem ledF_old (l : List (Nat × Nat)) (x : Nat × Nat) {j : Nat} (hj : j < l.length * 2) : ledF (l ++ [x]) j = ledF l j := by
  have : j / 2 < l.length := by omega
  simp only [ledF, List.getElem?_append_left this]
theorem ledF_new (l : List (Nat × Nat)) (a b : Nat) {j : Nat} (hj : j < 1 * 2) : ledF (l ++ [(a, b)]) (l.length * 2 + j) = twoG a b j := by
  have h1 : (l.length * 2 + j) / 2 = l.length := by omega
  have h2 : (l.length * 2 + j) % 2 = j := by omega
  simp only [ledF, twoG, h1, h2]
  simp
/-- The rows while the list of leaders grows. -/
abbrev rowsE' (g gl n : Nat) (s : ES) (A : Option Addr) (m cap : Nat) (A' : Option Addr) (cap' : Nat) (R : List LRow) : List LRow :=
  blk g 57 2 (ofL [.slice (some ⟨gl, 0, none⟩) n n, .slice A m cap]) :: oneR gl n s :: ledR A' cap' s.led :: R
theorem el_led {g gl n : Nat} {s : ES} {A A' : Option Addr} {m cap cap' : Nat} {R : List LRow} {w0 w : World} (h : Lay w0 w (rowsE' g gl n s A m cap A' cap' R)) : Lay w0 (w.setCell ⟨g, 1, none⟩ (.slice A' s.led.length cap')) (rowsE g gl n s A' cap' R) := h.fld 0 1 _ rfl (by omega) (by simp)
/-- What the statement's loads read. -/
def ElS (g gl i : Nat) (A : Option Addr) (m cap t : Nat) (w : World) : Prop := w.cell? ⟨g, 1, none⟩ = some (.slice A m cap) ∧ w.cell? ⟨gl, i * 4, none⟩ = some (.int .i64 (t : Nat))

section
variable (g gl n : Nat) (s : ES) (A : Option Addr) (cap : Nat) (R : List LRow) (w0 w : World)
theorem know_any (i t : Nat) (hi : i < n) (h : Lay w0 w (rowsE g gl n s A cap R)) :
    Calls Try.prog 32 #[.pointer (some ⟨g, 0, none⟩), .int .i64 i, .int .i64 t] w fun e w' => e = .returned (.tuple #[]) ∧ Lay w0 w' (rowsE g gl n (knowS i t s) A cap R) := by
  have H := Lib.hid h; clear h
  obtain ⟨c0, c1⟩ := el_heads H.out
  have ng := H.out.ne_ 0 1 rfl rfl (by omega)
  obtain ⟨rr0, rr1, rr2, rr3⟩ := el_cells H.out (i := i) hi
  have fr0 := H.out.frz 1 rfl (by omega) (i * 4)
  have fr1 := H.out.frz 1 rfl (by omega) (i * 4 + 1)
  have fr2 := H.out.frz 1 rfl (by omega) (i * 4 + 2)
  have fr3 := H.out.frz 1 rfl (by omega) (i * 4 + 3)
  by_cases ht : s.T i < t
  · have HK := Lib.hid (show knowS i t s = setE i t 0 (-1) s from if_pos ht)
    go_enter Try.func32, Try.ntmps32
    go_wp2
    go_end0
    exact ⟨rfl, by rw [HK.out]; exact el_one H.out hi⟩
  · have HK := Lib.hid (show knowS i t s = s from if_neg ht)
    go_enter Try.func32, Try.ntmps32
    go_wp2
    go_end0
    exact ⟨rfl, by rw [HK.out]; exact H.out⟩
theorem crash_any (i : Nat) (hi : i < n) (h : Lay w0 w (rowsE g gl n s A cap R)) :
    Calls Try.prog 24 #[.pointer (some ⟨g, 0, none⟩), .int .i64 i] w fun e w' => e = .returned (.tuple #[]) ∧ Lay w0 w' (rowsE g gl n (crashS i s) A cap R) := by
  have H := Lib.hid h; clear h
  obtain ⟨c0, c1⟩ := el_heads H.out
  have ng := H.out.ne_ 0 1 rfl rfl (by omega)
  obtain ⟨rr0, rr1, rr2, rr3⟩ := el_cells H.out (i := i) hi
  have fr0 := H.out.frz 1 rfl (by omega) (i * 4)
  have fr1 := H.out.frz 1 rfl (by omega) (i * 4 + 1)
  have fr2 := H.out.frz 1 rfl (by omega) (i * 4 + 2)
  have fr3 := H.out.frz 1 rfl (by omega) (i * 4 + 3)
  go_enter Try.func24, Try.ntmps24
  refine wp_held_mask (fun W => W.cell? ⟨g, 0, none⟩ = some (.slice (some ⟨gl, 0, none⟩) n n)) [true, true, true, true, true, true, true, true, true, true, true, true, false, false, false, false] ?A1 (by kernel_rfl) rfl (by kernel_rfl) (by repeat' (first | (with_reducible apply tame_then) | (with_reducible apply tame_block) | (with_reducible apply tame_scope) | exact tame_gives | exact tame_body (fun _ _ h => ⟨_, h.1⟩))) c0 ?head ?tail
  case head =>
    intro W5 s0
    simp only [pick]
    go_wp2
    exact taken
  case tail =>
    simp only [pick, List.map_cons, List.map_nil, Bool.not_true, Bool.not_false]
    have H1 := Lib.hid (el_R 0 H.out.drew hi)
    have H2 := Lib.hid (el_H 0 H1.out hi)
    refine tail_step ?_
    go_wp2
    refine holds (el_heads H1.out).1 ?_
    refine tail_step ?_
    go_wp2
    refine holds (el_heads H1.out).1 ?_
    refine tail_step ?_
    go_wp2
    refine holds (el_heads H1.out).1 ?_
    refine tail_last ?_
    go_wp2
    go_end0
    exact ⟨rfl, H2.out⟩
theorem count_any (i b : Nat) (hi : i < n) (hb : b < n) (hn : n ≤ 6) (hH : s.H i < 2 ^ n) (hl : s.led.length ≤ 200) (h : Lay w0 w (rowsE g gl n s A cap R)) :
    Calls Try.prog 30 #[.pointer (some ⟨g, 0, none⟩), .int .i64 i, .int .i64 b] w fun e w' => e = .returned (.tuple #[]) ∧ ∃ A' cap', Lay w0 w' (rowsE g gl n (countS n i b s) A' cap' R) := by
  have H := Lib.hid h; clear h
  have hx : s.H i ||| 2 ^ b < 2 ^ n := or_lt hH hb
  have hx64 : s.H i ||| 2 ^ b < 64 := Nat.lt_of_lt_of_le hx (pow64 hn)
  have HO := Lib.hid (or_pow (a := s.H i) (m := b) (by have := pow64 hn; omega) (by omega))
  have hxn : s.H i < 4294967296 := by have := pow64 hn; omega
  have hHn := H.out.size
  have H1 := Lib.hid (el_H (s.H i ||| 2 ^ b) H.out.drew hi)
  obtain ⟨c0, c1⟩ := el_heads H.out
  have ng := H.out.ne_ 0 1 rfl rfl (by omega)
  obtain ⟨rr0, rr1, rr2, rr3⟩ := el_cells H.out (i := i) hi
  have fr0 := H.out.frz 1 rfl (by omega) (i * 4)
  have fr1 := H.out.frz 1 rfl (by omega) (i * 4 + 1)
  have fr2 := H.out.frz 1 rfl (by omega) (i * 4 + 2)
  have fr3 := H.out.frz 1 rfl (by omega) (i * 4 + 3)
  clear hH
  go_enter Try.func30, Try.ntmps30
  go_wp2
  refine wp_text 9 (by kernel_rfl) (by kernel_rfl) (by kernel_rfl) (by repeat' (first | (with_reducible apply tame_then) | (with_reducible apply tame_block) | (with_reducible apply tame_scope) | exact tame_gives | exact tame_body (fun _ _ h => ⟨_, h.1⟩))) ?_
  simp only [List.take_succ_cons, List.take_zero, List.drop_succ_cons, List.drop_zero]
  go_wp2
  refine headed ?_
  go_wp2
  rw [HO.out]
  refine at_lay (F := fun W' => Code.wp _ _ _ _ W') H1.out ?_
  intro W hW
  have HW := Lib.hid hW
  clear hW H1 H c0 c1 ng rr0 rr1 rr2 rr3 fr0 fr1 fr2 fr3
  have HCO := Lib.hid (show countS n i b s = if s.R i = 1 ∧ n < 2 * pop (s.H i ||| 2 ^ b) then { haveS i b s with R := upd s.R i 2, led := s.led ++ [(s.T i, i)] } else haveS i b s from rfl)
  have hw6 : Lay w0 W (rowsE g gl n (haveS i b s) A cap R) := HW.out
  have HW := Lib.hid hw6
  clear hw6
  obtain ⟨c0, c1⟩ := el_heads HW.out
  have ng := HW.out.ne_ 0 1 rfl rfl (by omega)
  obtain ⟨rr0, rr1, rr2, rr3⟩ := el_cells HW.out (i := i) hi
  have fr0 := HW.out.frz 1 rfl (by omega) (i * 4)
  have fr1 := HW.out.frz 1 rfl (by omega) (i * 4 + 1)
  have fr2 := HW.out.frz 1 rfl (by omega) (i * 4 + 2)
  have fr3 := HW.out.frz 1 rfl (by omega) (i * 4 + 3)
  have e3 : (haveS i b s).H i = s.H i ||| 2 ^ b := upd_same ..
  have e2 : (haveS i b s).R i = s.R i := rfl
  have e0 : (haveS i b s).T i = s.T i := rfl
  rw [e3] at rr3
  rw [e2] at rr1
  rw [e0] at rr0
  clear e3 e2 e0
  obtain ⟨x, hxe⟩ : ∃ x, s.H i ||| 2 ^ b = x := ⟨_, rfl⟩
  rw [hxe] at rr3 hx hx64 HCO
  have hp : pop x ≤ 6 := pop_le (n := 6) hx64 (by omega)
  obtain ⟨q, hq⟩ : ∃ q, pop x = q := ⟨_, rfl⟩
  have HQ := Lib.hid hq
  rw [hq] at hp HCO
  clear hq hxe HO
  by_cases hR : s.R i = 1
  · by_cases hm : n < 2 * q
    · have HCQ := Lib.hid (HCO.out.trans (if_pos ⟨hR, hm⟩))
      clear HCO
      rw [hR] at rr1
      clear hR
      have hw : IntKind.i64.wrap (2 * (q : Int)) = 2 * (q : Int) := IntWalk.i64_in _ (by omega)
      have hm' : (n : Int) < 2 * (q : Int) := by omega
      have hd : decide ((n : Int) < 2 * (q : Int)) = true := decide_eq_true hm'
      go_quiet ((go_at_call 34; exact Calls.quiet_of ((ones_any x _ hx64).mono fun e w' ⟨h1, h2⟩ => ⟨by rw [h1, HQ.out], 1, h2⟩)))
      clear hw hd hm' hm
      go_wp2
      have H1 := Lib.hid (el_R 2 HW.out hi)
      refine at_lay (F := fun W' => Code.wp _ _ _ _ W') (H1.out.sim ⟨rfl, rfl, rfl, rfl⟩) ?_
      intro W2 hW2
      clear H1 HW c0 c1 ng rr0 rr1 rr2 rr3 fr0 fr1 fr2 fr3
      have hw2 : Lay w0 W2 (rowsE g gl n { haveS i b s with R := upd s.R i 2 } A cap R) := hW2
      have HW := Lib.hid hw2
      clear hw2 hW2
      obtain ⟨c0, c1⟩ := el_heads HW.out
      have r0 := (el_cells HW.out (i := i) hi).1
      have ng := HW.out.ne_ 0 1 rfl rfl (by omega)
      have hl1 : g < W2.heap.size := (HW.out.at_ 0 rfl).2
      have hl2 : gl < W2.heap.size := (HW.out.at_ 1 rfl).2
      have r0' : W2.cell? ⟨gl, i * 4, none⟩ = some (.int .i64 (s.T i : Nat)) := r0
      have c1' : W2.cell? ⟨g, 1, none⟩ = some (.slice A s.led.length cap) := c1
      clear r0 c1
      obtain ⟨iL, hiL, hzL0, hzL1, hzL2⟩ := info_parts infoLed
      refine wp_held_mask (ElS g gl i A s.led.length cap (s.T i)) [true, true, true, true, true, true, true, true, true, true, false, false, false, false, false, false] ?A1 (by kernel_rfl) rfl (by kernel_rfl) (by repeat' (first | (with_reducible apply tame_then) | (with_reducible apply tame_block) | (with_reducible apply tame_scope) | exact tame_gives | exact tame_body (fun _ _ h => ⟨_, h.1⟩))) ⟨c1', r0'⟩ ?head ?tail
      case head =>
        intro W5 ⟨s0, s1⟩
        simp only [pick]
        go_wp2
        exact taken
      case tail =>
        simp only [pick, List.map_cons, List.map_nil, Bool.not_true, Bool.not_false]
        refine tail_step ?_
        go_wp2
        refine holds ⟨c1', r0'⟩ ?_
        refine tail_step ?_
        go_wp2
        refine holds ⟨(World.cell?_alloc_lt _ _ _ hl1).trans c1', (World.cell?_alloc_lt _ _ _ hl2).trans r0'⟩ ?_
        refine tail_step ?_
        refine wpList_ap rfl (.tmp 48) (.tmp 55) _ rfl 73 iL _ 2 16 Try.underlying55 hiL hzL0 hzL1 hzL2 rfl (by omega) w0.heap.size rfl ((HW.out.alloc _).own 2 _ rfl) rfl (m := 1) (cell_new _ _ _ _ _ rfl (two_cells (s.T i) i))
          (fun j hj => by rcases (by omega : j = 0 ∨ j = 1) with rfl | rfl <;> rfl) (ledF (s.led ++ [(s.T i, i)])) (fun j hj => ledF_old s.led _ hj) (fun j hj => ledF_new s.led _ _ hj) (s.led ++ [(s.T i, i)]).length (by simp) (by unfold maxLen; show s.led.length + 1 ≤ _; omega) (by show (s.led.length + 1) * 16 ≤ _; omega) (by have := HW.out.size; simp; omega) ?_
        intro A2 cap2 w2 ho hg ha
        have hL2 : Lay w0 w2 (rowsE' g gl n { haveS i b s with R := upd s.R i 2, led := s.led ++ [(s.T i, i)] } A s.led.length cap A2 cap2 R) := (HW.out.alloc _).drew.app 2 rfl ho hg ha
        have d1 : w2.cell? ⟨g, 1, none⟩ = some (.slice A s.led.length cap) := hL2.cellB 0 rfl 1 (by omega)
        have d0 : w2.cell? ⟨gl, i * 4, none⟩ = some (.int .i64 (s.T i : Nat)) := (hL2.cell 1 rfl (j := i * 4) (by omega)).trans (by rw [oneF_0]; rfl)
        have fd := hL2.frz 0 rfl (by omega) 1
        have HL3 := Lib.hid (el_led hL2)
        clear ho hg ha hL2
        go_wp2
        refine holds ⟨d1, d0⟩ ?_
        refine tail_step ?_
        go_wp2
        refine holds ⟨d1, d0⟩ ?_
        refine tail_step ?_
        go_wp2
        refine holds ⟨d1, d0⟩ ?_
        refine tail_last ?_
        go_wp2
        go_end0
        exact ⟨rfl, A2, cap2, by rw [HCQ.out]; have h3 := HL3.out; simp only [List.length_append, List.length_singleton] at h3 ⊢; exact h3⟩
    · have HCQ := Lib.hid (HCO.out.trans (if_neg (fun h => hm h.2)))
      clear HCO
      rw [hR] at rr1
      clear hR
      have hw : IntKind.i64.wrap (2 * (q : Int)) = 2 * (q : Int) := IntWalk.i64_in _ (by omega)
      have hm' : 2 * (q : Int) ≤ (n : Int) := by omega
      have hd : decide ((n : Int) < 2 * (q : Int)) = false := decide_eq_false (by omega)
      go_quiet ((go_at_call 34; exact Calls.quiet_of ((ones_any x _ hx64).mono fun e w' ⟨h1, h2⟩ => ⟨by rw [h1, HQ.out], 1, h2⟩)))
      clear hw hd hm' hm
      go_wp2
      go_end0
      exact ⟨rfl, A, cap, by rw [HCQ.out]; exact HW.out.sim ⟨rfl, rfl, rfl, rfl⟩⟩
  · have HCQ := Lib.hid (HCO.out.trans (if_neg (fun h => hR h.1)))
    clear HCO
    have e1 : (s.R i == 1) = false := by simpa using hR
    clear hR
    go_quiet (fail)
    go_wp2
    go_end0
    exact ⟨rfl, A, cap, by rw [HCQ.out]; exact HW.out.sim ⟨rfl, rfl, rfl, rfl⟩⟩
end
end Go.Proofs.Ytfhmabpalimcnaa
