/- The walk of waits and of find. -/
import Derived.Test.YtoakgoigamigjaaLn1
import Derived.Test.YtoakgoigamigjaaShr
import Derived.Test.YtoakgoigamigjaaKeyU
import Derived.Test.YtoakgoigamigjaaHeld
set_option linter.unusedVariables false
set_option linter.unusedSimpArgs false
namespace Go.Proofs.Ytoakgoigamigjaa
open Go.RowKit Go.Maps Go.MapKept

theorem infoIL : (Try.prog.info? 3).map (fun i => (i.zero, i.size, i.bytes)) = some (some (.int .i64 0), 1, 8) := by kernel_rfl
theorem zeroL (u : World) : (zeroValue 4).run Try.prog u = .ok (.bool false) u := by kernel_rfl
/-- What is asked of the function that is handed in. -/
def Asks (k : FuncId) (o : Opl) (B : Nat → Nat → Bool) : Prop := ∀ i j w, Calls Try.prog k #[opV o i, opV o j] w fun e w' => e = .returned (.bool (B i j)) ∧ Below w.heap.size w w'
theorem Asks.is {k : FuncId} {o : Opl} {B : Nat → Nat → Bool} (h : Asks k o B) (i j : Nat) (w : World) (b : Bool) (hb : B i j = b) : Calls Try.prog k #[opV o i, opV o j] w fun e w' => e = .returned (.bool b) ∧ Below w.heap.size w w' := hb ▸ h i j w
abbrev fnV (k : FuncId) : Value := .func (.func k) #[] #[]
abbrev badφ (o : Opl) (B : Nat → Nat → Bool) (es : Array MapEntry) (c : Nat) : Prop :=
  ∃ nm f, EMap Try.prog 69 (.bool false) keyU (fun _ => True) nm f es c ∧ ∀ p, f p = .bool false ∨ (f p = .bool true ∧ ¬ Fin o B p.1 ((p.2 : Int) - 1))
abbrev finR (g n cap bm : Nat) (A : Option Addr) (k : FuncId) : LRow := blk g 65 3 (ofL [.slice A n cap, fnV k, .map (some bm)])
section
variable {o : Opl} {B : Nat → Nat → Bool} {k : FuncId} {A : Option Addr} {cap g bm : Nat} {w0 w : World} {L : List LRow}
theorem bad_look (d q : Nat) (h : LayM w0 w L [⟨bm, badφ o B⟩]) (hd : d < 4294967296) (hq : q < 4294967296) :
    ∃ b, (Instr.lookup 63 (.map (some bm)) (.agg #[.int .u32 (d : Nat), .int .u32 (q : Nat)]) false).run Try.prog w = .ok (.bool b) w ∧ (b = true → ¬ Fin o B d ((q : Int) - 1)) := by
  obtain ⟨es, c, hb, nm, f, hφ, hf⟩ := h.mp 0 rfl
  obtain ⟨kl, hk⟩ := keyU_of (d, q) hd hq
  have hrun := EMap.look hφ hb (Keyed.of_law lawU) Try.underlying63 (zeroL w) (d, q) hk
  rcases hf (d, q) with h1 | ⟨h1, h2⟩
  · exact ⟨false, by rw [h1] at hrun; exact hrun, fun h => by cases h⟩
  · exact ⟨true, by rw [h1] at hrun; exact hrun, fun _ => h2⟩
theorem bad_put (d q : Nat) (h : LayM w0 w L [⟨bm, badφ o B⟩]) (hd : d < 4294967296) (hq : q < 4294967296) (hno : ¬ Fin o B d ((q : Int) - 1)) :
    ∃ w', (Instr.mapUpdate 63 (.map (some bm)) (.agg #[.int .u32 (d : Nat), .int .u32 (q : Nat)]) (.bool true)).run Try.prog w = .ok () w' ∧ LayM w0 w' L [⟨bm, badφ o B⟩] := by
  obtain ⟨es, c, hb, nm, f, hφ, hf⟩ := h.mp 0 rfl
  obtain ⟨kl, hk⟩ := keyU_of (d, q) hd hq
  obtain ⟨es', c', h1, h2⟩ := EMap.update hφ hb (Keyed.of_law lawU) Try.underlying63 keyU_inj (d, q) trivial hk (.bool true)
  refine ⟨_, h1, h.setM 0 rfl es' c' _ ⟨nm + 1, _, h2, fun p => ?_⟩⟩
  unfold fput
  split
  · rename_i e; subst e; exact .inr ⟨rfl, hno⟩
  · exact hf p
end

set_option maxRecDepth 100000 in
set_option maxHeartbeats 1600000 in
theorem waits_any (o : Opl) (B : Nat → Nat → Bool) (k : FuncId) (HB : Asks k o B) (heg : ∀ args w, (callFunc k args).run Try.prog w = .ok (.enter k args) w) (A : Option Addr) (cap g : Nat) (w0 w : World) (d i : Nat) (V : Value) (ho : OpsIn w0 A o) (hb0 : Below w0.heap.size w0 w) (hn : o.n ≤ 8) (hd : d < 2 ^ o.n)
    (h0 : w.cell? ⟨g, 0, none⟩ = some (.slice A o.n cap)) (h1 : w.cell? ⟨g, 1, none⟩ = some (fnV k)) (r : Bool) (hr : lnWaitB B o.n d i = r) :
    Calls Try.prog 22 #[.pointer (some ⟨g, 0, none⟩), .int .u32 d, opV o i] w fun e w' => e = .returned (.bool r) ∧ Below w.heap.size w w' := by
  have HO := Lib.hid ho
  have HB := Lib.hid HB
  have HR := Lib.hid hr
  have HB0 := Lib.hid hb0
  have hgl := World.block_lt_of_cell? w _ h0
  have hgl : g < w.heap.size := hgl
  have hd32 : d < 4294967296 := Nat.lt_of_lt_of_le hd (Nat.le_trans (Nat.pow_le_pow_right (by omega) hn) (by decide))
  have HC : Hid (∀ W, Below w.heap.size w W → W.cell? ⟨g, 0, none⟩ = some (.slice A o.n cap) ∧ W.cell? ⟨g, 1, none⟩ = some (fnV k)) := fun W hb => ⟨(hb.cell (p := ⟨g, 0, none⟩) hgl).trans h0, (hb.cell (p := ⟨g, 1, none⟩) hgl).trans h1⟩
  have HD := Lib.hid hd32
  have HGL := Lib.hid hgl
  obtain ⟨nn, hnn⟩ : ∃ nn, o.n = nn := ⟨_, rfl⟩
  have HNN := Lib.hid hnn
  rw [hnn] at h0 hn
  clear ho hr hb0 hd hd32 h1 hnn
  go_enter Try.func22, Try.ntmps22
  go_wp2
  have HL0 : Hid (Lay w (w.alloc (.cells #[.int .i64 (o.fr i), .int .i64 (o.bg i), .int .i64 (o.en i), .bool (o.wr i), .int .i64 (o.vl i)] 36)) [blk w.heap.size 36 5 (ofL (opL o i))]) := (Lay.nil w).newB (opL o i) _ 5 rfl _ rfl
  clear h0 hgl
  generalize w.heap.size = bb at HL0 ⊢
  go_loopw [14] (fun x wr => ∃ a : Nat, a ≤ nn ∧ x = .int .i64 a ∧ Hid (∀ t, t < a → (fun a => !d.testBit a && B a i) t = false) ∧ Hid (Lay w wr [blk bb 36 5 (ofL (opL o i))])) (fun x _ => nn - (intOf x).toNat)
  case atStart => exact ⟨0, by omega, rfl, fun j hj => absurd hj (by omega), HL0.out⟩
  case round =>
    clear HL0
    obtain ⟨a, ha, rfl, HA, HL⟩ := hrel
    by_cases hlt : a < nn
    · have hlt2 : a < o.n := by rw [HNN.out]; exact hlt
      have hb1 := bit_num (i := a) HD.out
      obtain ⟨x0, x1⟩ := HC.out wr HL.out.bel
      obtain ⟨ad, rfl, c0, c1, c2, c3, c4⟩ := HO.out wr (HB0.out.trans (HL.out.bel.mono HB0.out.size)) a hlt2
      have a0 := HL.out.cellB 0 rfl 0 (by omega)
      have a1 := HL.out.cellB 0 rfl 1 (by omega)
      have a2 := HL.out.cellB 0 rfl 2 (by omega)
      have a3 := HL.out.cellB 0 rfl 3 (by omega)
      have a4 := HL.out.cellB 0 rfl 4 (by omega)
      have hbb := (HL.out.at_ 0 rfl).2
      have hg := HL.out.size
      have hg2 := HGL.out
      have hgg : g < wr.heap.size := by omega
      simp only [opL, ofL_0, ofL_1, ofL_2, ofL_3, ofL_4] at a0 a1 a2 a3 a4
      have HL1 : Hid (∀ ob, Lay w (wr.alloc ob) [blk bb 36 5 (ofL (opL o i))]) := fun ob => HL.out.alloc ob
      clear hg hg2
      cases hx : d.testBit a
      · rw [hx] at hb1
        simp only [Bool.false_eq_true, if_false] at hb1
        cases hq : B a i
        · have HQ := Lib.hid hq
          have HN : Hid ((fun a => !d.testBit a && B a i) a = false) := by show (!d.testBit a && B a i) = false; rw [hq, Bool.and_false]
          clear hx hq
          go_wp2
          refine wp_text 12 (by kernel_rfl) (by kernel_rfl) (by kernel_rfl) (by repeat' (first | (with_reducible apply tame_then) | (with_reducible apply tame_block) | (with_reducible apply tame_scope) | exact tame_gives | exact tame_body (fun _ _ h => ⟨_, h.1⟩))) ?_
          simp only [List.take_succ_cons, List.take_zero, List.drop_succ_cons, List.drop_zero]
          go_wp2
          refine headed ?_
          go_wp2_with fail
          refine (HB.out.is a i _ false HQ.out).mono ?_
          rintro e w1 ⟨rfl, hw1⟩
          have HL2 := Lib.hid ((HL1.out _).drew.keep hw1); clear hw1
          go_wp2
          go_roundw
          case rel => exact ⟨a + 1, by omega, by go_num, snoc_all HA.out HN.out, HL2.out⟩
          case measure => simp [intOf]; omega
        · have HQ := Lib.hid hq
          have HN : Hid (r = true) := HR.out.symm.trans (anyTo_iff.2 ⟨a, hlt2, by rw [hx, hq]; rfl⟩)
          clear hx hq
          go_wp2
          refine wp_text 12 (by kernel_rfl) (by kernel_rfl) (by kernel_rfl) (by repeat' (first | (with_reducible apply tame_then) | (with_reducible apply tame_block) | (with_reducible apply tame_scope) | exact tame_gives | exact tame_body (fun _ _ h => ⟨_, h.1⟩))) ?_
          simp only [List.take_succ_cons, List.take_zero, List.drop_succ_cons, List.drop_zero]
          go_wp2
          refine headed ?_
          go_wp2_with fail
          refine (HB.out.is a i _ true HQ.out).mono ?_
          rintro e w1 ⟨rfl, hw1⟩
          have HL2 := Lib.hid ((HL1.out _).drew.keep hw1); clear hw1
          go_wp2
          go_ret
          exact ⟨ret_bool HN.out.symm, HL2.out.bel⟩
      · rw [hx] at hb1
        simp only [if_true] at hb1
        have HN : Hid ((fun a => !d.testBit a && B a i) a = false) := by show (!d.testBit a && B a i) = false; rw [hx]; rfl
        clear hx
        go_wp2
        refine wp_text 12 (by kernel_rfl) (by kernel_rfl) (by kernel_rfl) (by repeat' (first | (with_reducible apply tame_then) | (with_reducible apply tame_block) | (with_reducible apply tame_scope) | exact tame_gives | exact tame_body (fun _ _ h => ⟨_, h.1⟩))) ?_
        simp only [List.take_succ_cons, List.take_zero, List.drop_succ_cons, List.drop_zero]
        go_wp2
        refine headed ?_
        go_wp2
        go_roundw
        case rel => exact ⟨a + 1, by omega, by go_num, snoc_all HA.out HN.out, (HL1.out _).sim ⟨rfl, rfl, rfl, rfl⟩⟩
        case measure => simp [intOf]; omega
    · obtain rfl : a = nn := by omega
      have HN : Hid (r = false) := HR.out.symm.trans (by rw [lnWaitB, HNN.out]; exact anyTo_no.2 HA.out)
      go_wp2
      go_ret
      exact ⟨ret_bool HN.out.symm, HL.out.bel⟩

def lnF (l : List Nat) (j : Nat) : Value := .int .i64 ((l.getD j 0 : Nat))
theorem Lay.drop2 {w0 w : World} {a b c d : LRow} {L : List LRow} (h : Lay w0 w (a :: b :: c :: d :: L)) : Lay w0 w (a :: b :: L) := by
  refine h.pick (fun k => if k < 2 then k else k + 2) (fun i j _ _ e => ?_) (fun k _ => ?_)
  · split at e <;> split at e <;> omega
  · rcases k with _ | _ | k
    · rfl
    · rfl
    · rfl
theorem LayM.drop2 {w0 w : World} {a b c d : LRow} {L : List LRow} {Q : List MRow} (h : LayM w0 w (a :: b :: c :: d :: L) Q) : LayM w0 w (a :: b :: L) Q := h.step h.lay.drop2 (.refl _)
theorem Lay.drop3 {w0 w : World} {a b c d e : LRow} {L : List LRow} (h : Lay w0 w (a :: b :: c :: d :: e :: L)) : Lay w0 w (a :: b :: L) := by
  refine h.pick (fun k => if k < 2 then k else k + 3) (fun i j _ _ e => ?_) (fun k _ => ?_)
  · split at e <;> split at e <;> omega
  · rcases k with _ | _ | k
    · rfl
    · rfl
    · rfl
theorem LayM.drop3 {w0 w : World} {a b c d e : LRow} {L : List LRow} {Q : List MRow} (h : LayM w0 w (a :: b :: c :: d :: e :: L) Q) : LayM w0 w (a :: b :: L) Q := h.step h.lay.drop3 (.refl _)
theorem LayM.swap {w0 w : World} {a b : LRow} {L : List LRow} {Q : List MRow} (h : LayM w0 w (a :: b :: L) Q) : LayM w0 w (b :: a :: L) Q := h.step h.lay.swap (.refl _)
theorem LayM.tail {w0 w : World} {a : LRow} {L : List LRow} {Q : List MRow} (h : LayM w0 w (a :: L) Q) : LayM w0 w L Q := h.step h.lay.tail (.refl _)
theorem all_atL {n : Nat} (hn : n ≤ 8) : (((2 : Int) ^ n % 4294967296 - 1) % 4294967296) = ((2 ^ n - 1 : Nat) : Int) := by
  have : n = 0 ∨ n = 1 ∨ n = 2 ∨ n = 3 ∨ n = 4 ∨ n = 5 ∨ n = 6 ∨ n = 7 ∨ n = 8 := by omega
  rcases this with rfl | rfl | rfl | rfl | rfl | rfl | rfl | rfl | rfl <;> decide
/-- What find answers. -/
def FindP (o : Opl) (B : Nat → Nat → Bool) (d : Nat) (last : Int) (w0 : World) (g cap bm : Nat) (A : Option Addr) (k : FuncId) (L : List LRow) (v : Value) (w' : World) : Prop :=
  (∃ l A' cap', v = .tuple #[.slice A' l.length cap', .bool true] ∧ RunO o B d last l ∧ LayM w0 w' (finR g o.n cap bm A k :: lst A' 3 l.length cap' (lnF l) :: L) [⟨bm, badφ o B⟩]) ∨
  (v = .tuple #[.slice none 0 0, .bool false] ∧ ¬ Fin o B d last ∧ LayM w0 w' (finR g o.n cap bm A k :: L) [⟨bm, badφ o B⟩])

set_option maxRecDepth 100000 in
set_option maxHeartbeats 6400000 in
theorem find_any (o : Opl) (hO : o.n ≤ 8) (B : Nat → Nat → Bool) (k : FuncId) (HB : Asks k o B) (heg : ∀ args w, (callFunc k args).run Try.prog w = .ok (.enter k args) w) (A : Option Addr) (cap g bm : Nat) (w0 : World) (ho : OpsIn w0 A o) :
    ∀ (fuel d : Nat) (last : Int) (w : World) (L : List LRow), d < 2 ^ o.n → (-1 ≤ last ∧ last < o.n) → o.n ≤ popTo d o.n + fuel → LayM w0 w (finR g o.n cap bm A k :: L) [⟨bm, badφ o B⟩] →
    Calls Try.prog 20 #[.pointer (some ⟨g, 0, none⟩), .int .u32 d, .int .i64 last] w (Gives (FindP o B d last w0 g cap bm A k L)) := by
  have HO := Lib.hid ho; clear ho
  have HB := Lib.hid HB
  have HEG := Lib.hid heg; clear heg
  intro fuel
  induction fuel with
  | zero =>
    intro d last w L hd hl hp h
    have hfull : d = 2 ^ o.n - 1 := (full_iff hd).2 (popTo_full_iff (by omega))
    have hAll := all_atL hO
    rw [← hfull] at hAll
    have H := Lib.hid h; clear h
    have HF : Hid (RunO o B d last []) := hfull
    have c0 := H.out.lay.cellB 0 rfl 0 (by omega)
    have c1 := H.out.lay.cellB 0 rfl 1 (by omega)
    have c2 := H.out.lay.cellB 0 rfl 2 (by omega)
    simp only [ofL_0, ofL_1, ofL_2] at c0 c1 c2
    clear hd hl hp hfull
    go_enter Try.func20, Try.ntmps20
    go_wp2
    go_ret2
    exact ⟨_, rfl, .inl ⟨[], none, 0, rfl, HF.out, (H.out.lnil _ _ _).swap⟩⟩
  | succ fuel ih =>
    intro d last w L hd hl hp h
    have HI := Lib.hid ih; clear ih
    have H := Lib.hid h; clear h
    have hAll := all_atL hO
    by_cases hfull : d = 2 ^ o.n - 1
    · rw [← hfull] at hAll
      have HF : Hid (RunO o B d last []) := hfull
      have c0 := H.out.lay.cellB 0 rfl 0 (by omega)
      have c1 := H.out.lay.cellB 0 rfl 1 (by omega)
      have c2 := H.out.lay.cellB 0 rfl 2 (by omega)
      simp only [ofL_0, ofL_1, ofL_2] at c0 c1 c2
      clear hd hl hp hfull
      go_enter Try.func20, Try.ntmps20
      go_wp2
      go_ret2
      exact ⟨_, rfl, .inl ⟨[], none, 0, rfl, HF.out, (H.out.lnil _ _ _).swap⟩⟩
    have hn1 : 0 < o.n := by
      rcases Nat.eq_zero_or_pos o.n with h0 | h0
      · rw [h0] at hfull hd; simp at hfull hd; omega
      · exact h0
    obtain ⟨av, rfl, _⟩ := HO.out w H.out.lay.bel 0 hn1
    have HOC : Hid (∀ W, Below w0.heap.size w0 W → ∀ i, i < o.n → W.cell? (av.add (i * 5)) = some (.int .i64 (o.fr i)) ∧ W.cell? ⟨(av.add (i * 5)).block, (av.add (i * 5)).off + 1, none⟩ = some (.int .i64 (o.bg i)) ∧
      W.cell? ⟨(av.add (i * 5)).block, (av.add (i * 5)).off + 2, none⟩ = some (.int .i64 (o.en i)) ∧ W.cell? ⟨(av.add (i * 5)).block, (av.add (i * 5)).off + 3, none⟩ = some (.bool (o.wr i)) ∧ W.cell? ⟨(av.add (i * 5)).block, (av.add (i * 5)).off + 4, none⟩ = some (.int .i64 (o.vl i))) := by
      show ∀ W, _
      intro W hb i hi
      obtain ⟨ad, e, h⟩ := HO.out W hb i hi
      injection e with e
      subst e
      exact h
    obtain ⟨iI, hiI, hzI0, hzI1, hzI2⟩ := info_parts infoIL
    have hd32 : d < 4294967296 := Nat.lt_of_lt_of_le hd (Nat.le_trans (Nat.pow_le_pow_right (by omega) hO) (by decide))
    have HF := Lib.hid hfull
    obtain ⟨F, hF⟩ : ∃ F, 2 ^ o.n - 1 = F := ⟨_, rfl⟩
    rw [hF] at hAll hfull
    have e0 : ((d : Int) == (F : Int)) = false := by rw [beq_eq_false_iff_ne]; omega
    obtain ⟨q, hq⟩ := Int.eq_ofNat_of_zero_le (by omega : 0 ≤ last + 1)
    have hq9 : q < 4294967296 := by omega
    have hq2 : (last + 1) % 4294967296 = (q : Int) := by omega
    have HLQ : Hid (last = (q : Int) - 1) := by show last = _; omega
    have HL1 : Hid (LayM w0 (w.alloc (.cells #[.int .u32 d, .int .u32 q] 69)) (finR g o.n cap bm (some av) k :: blk w.heap.size 69 2 (ofL [.int .u32 d, .int .u32 q]) :: L) [⟨bm, badφ o B⟩]) :=
      (H.out.newB [.int .u32 d, .int .u32 q] 69 2 rfl _ rfl).swap
    have HPOP := Lib.hid hp
    have HDN := Lib.hid hd
    have c0 := H.out.lay.cellB 0 rfl 0 (by omega)
    have c1 := H.out.lay.cellB 0 rfl 1 (by omega)
    have c2 := H.out.lay.cellB 0 rfl 2 (by omega)
    simp only [ofL_0, ofL_1, ofL_2] at c0 c1 c2
    clear hfull hF hp hd H
    go_enter Try.func20, Try.ntmps20
    go_wp2
    refine at_layM (F := fun W' => Code.wp _ _ _ _ W') HL1.out ?_
    intro W hW
    have HW := Lib.hid hW
    generalize w.heap.size = bk at HW ⊢
    generalize (2 : Int) ^ o.n % 4294967296 = p2
    generalize (p2 - 1) % 4294967296 = p3
    clear hW HL1 c0 c1 c2 hAll e0 hq hq2
    have c0 := HW.out.lay.cellB 0 rfl 0 (by omega)
    have c1 := HW.out.lay.cellB 0 rfl 1 (by omega)
    have c2 := HW.out.lay.cellB 0 rfl 2 (by omega)
    simp only [ofL_0, ofL_1, ofL_2] at c0 c1 c2
    have k0 := HW.out.lay.cellB 1 rfl 0 (by omega)
    have k1 := HW.out.lay.cellB 1 rfl 1 (by omega)
    simp only [ofL_0, ofL_1] at k0 k1
    obtain ⟨b, hlk, hbf⟩ := bad_look d q HW.out.drew hd32 hq9
    cases b
    case true =>
      have HN : Hid (¬ Fin o B d last) := by rw [HLQ.out]; exact hbf rfl
      clear hbf
      refine wp_text_all (by kernel_rfl) (by kernel_rfl) (by kernel_rfl) (by repeat' (first | (with_reducible apply tame_then) | (with_reducible apply tame_block) | (with_reducible apply tame_scope) | exact tame_gives | exact tame_body (fun _ _ h => ⟨_, h.1⟩))) ?_
      go_wp2
      refine headed ?_
      go_wp2
      go_ret2
      exact ⟨_, rfl, .inr ⟨rfl, HN.out, HW.out.drew.swap.tail⟩⟩
    clear hbf
    by_cases hl1 : 0 ≤ last
    · have hlt0 : last.toNat < o.n := by omega
      obtain ⟨_, _, _, _, v4⟩ := HOC.out W.drew HW.out.drew.lay.bel last.toNat hlt0
      have HNW : Hid (nowV o last = o.vl last.toNat) := if_pos hl1
      refine wp_text_all (by kernel_rfl) (by kernel_rfl) (by kernel_rfl) (by repeat' (first | (with_reducible apply tame_then) | (with_reducible apply tame_block) | (with_reducible apply tame_scope) | exact tame_gives | exact tame_body (fun _ _ h => ⟨_, h.1⟩))) ?_
      go_wp2
      refine headed ?_
      go_wp2
      clear v4 hlt0
      clear hlk k0 k1 c0 c1 c2
      go_loopw [50] (fun x wr => ∃ i : Nat, i ≤ o.n ∧ x = .int .i64 i ∧ Hid (∀ t, t < i → ¬ (canB o B d last t = true ∧ Fin o B (d ||| 2 ^ t) (nextL o last t))) ∧ Hid (LayM w0 wr (finR g o.n cap bm (some av) k :: blk bk 69 2 (ofL [.int .u32 d, .int .u32 q]) :: L) [⟨bm, badφ o B⟩])) (fun x _ => o.n - (intOf x).toNat)
      case atStart => exact ⟨0, by omega, rfl, fun t ht => absurd ht (by omega), HW.out.sim ⟨rfl, rfl, rfl, rfl⟩⟩
      case round =>
        clear HW
        obtain ⟨i, hi, rfl, HA, HL⟩ := hrel
        by_cases hlt : i < o.n
        · obtain ⟨c0, c1, c2, c3, c4⟩ := HOC.out wr HL.out.lay.bel i hlt
          have HLB := Lib.hid (HL.out.newB (opL o i) 36 5 rfl _ rfl)
          have hb1 := bit_at (i := i) hd32
          cases hx : d.testBit i
          case true =>
            rw [hx] at hb1
            have HN := Lib.hid (can_bit (o := o) (B := B) (last := last) hx)
            clear hx
            go_wp2
            go_roundw
            case rel => exact ⟨i + 1, by omega, by go_num, fun t ht => (Nat.lt_succ_iff_lt_or_eq.1 ht).elim (HA.out t) (fun e => by subst e; rw [HN.out]; exact fun h => by cases h.1), HLB.out.tail⟩
            case measure => simp [intOf]; omega
          have HX := Lib.hid hx
          rw [hx] at hb1
          obtain ⟨r, hr⟩ : ∃ r, lnWaitB B o.n d i = r := ⟨_, rfl⟩
          have HRW := Lib.hid hr
          clear hx hr
          go_wp2_with fail
          refine (waits_any o B k HB.out HEG.out (some av) cap g w0 _ d i (.int .i64 0) HO.out HLB.out.lay.bel hO HDN.out (by have := HLB.out.lay.cellB 1 rfl 0 (by omega); simpa [ofL_0] using this) (by have := HLB.out.lay.cellB 1 rfl 1 (by omega); simpa [ofL_1] using this) r HRW.out).mono ?_
          rintro e w1 ⟨rfl, hw1⟩
          have HL1 := Lib.hid (HLB.out.keep hw1)
          clear hw1 HLB
          cases r
          case true =>
            have HN := Lib.hid (can_wait (o := o) (last := last) HRW.out)
            go_wp2
            go_roundw
            case rel => exact ⟨i + 1, by omega, by go_num, fun t ht => (Nat.lt_succ_iff_lt_or_eq.1 ht).elim (HA.out t) (fun e => by subst e; rw [HN.out]; exact fun h => by cases h.1), HL1.out.tail⟩
            case measure => simp [intOf]; omega
          have b3 := HL1.out.lay.cellB 0 rfl 3 (by omega)
          have b4 := HL1.out.lay.cellB 0 rfl 4 (by omega)
          simp only [opL, ofL_3, ofL_4] at b3 b4
          have hor := or_pow (m := i) hd32 (by omega)
          cases hwr : o.wr i
          · rw [hwr] at b3
            have HWR := Lib.hid hwr
            clear hwr
            cases hv : (o.vl i != o.vl last.toNat)
            case true =>
              have HN := Lib.hid (can_val (B := B) (d := d) (last := last) HWR.out (by rw [HNW.out]; exact bne_iff_ne.1 hv))
              go_wp2
              go_roundw
              case rel => exact ⟨i + 1, by omega, by go_num, fun t ht => (Nat.lt_succ_iff_lt_or_eq.1 ht).elim (HA.out t) (fun e => by subst e; rw [HN.out]; exact fun h => by cases h.1), HL1.out.tail⟩
              case measure => simp [intOf]; omega
            have HC := Lib.hid (can_yes HX.out HRW.out (.inr (by rw [HNW.out]; exact bne_eq_false_iff_eq.1 hv) : o.wr i = true ∨ o.vl i = nowV o last))
            have HNX : Hid (nextL o last i = last) := by show (if o.wr i then (i : Int) else last) = last; rw [HWR.out]; rfl
            have HNL : Hid (-1 ≤ nextL o last i ∧ nextL o last i < o.n) := by show _ ∧ _; rw [HNX.out]; exact hl
            go_wp2_with fail
            refine (show Calls _ _ #[.pointer (some ⟨g, 0, none⟩), .int .u32 ((d ||| 2 ^ i : Nat) : Int), .int .i64 last] _ (Gives (FindP o B (d ||| 2 ^ i) (nextL o last i) w0 g cap bm (some av) k (blk _ 36 5 (ofL (opL o i)) :: blk bk 69 2 (ofL [.int .u32 d, .int .u32 q]) :: L))) from by
              have := HI.out (d ||| 2 ^ i) (nextL o last i) _ (blk _ 36 5 (ofL (opL o i)) :: blk bk 69 2 (ofL [.int .u32 d, .int .u32 q]) :: L) (or_lt' HDN.out hlt) HNL.out (by rw [popTo_orbit _ _ _ HX.out, if_pos hlt]; have := HPOP.out; omega) HL1.out.swap
              rw [HNX.out] at this ⊢
              exact this).mono ?_
            rintro e w3 ⟨v, rfl, hP⟩
            rcases hP with ⟨l, A', c', rfl, hrun, hl3⟩ | ⟨rfl, hno, hl3⟩
            · have HRUN := Lib.hid hrun
              have HL3 := Lib.hid hl3
              have hlen : l.length ≤ 8 := by have := run_len (or_lt' HDN.out hlt) hrun; omega
              clear hrun hl3 HL1
              have HLS : Hid (LayM w0 (w3.alloc (.cells #[.int .i64 (i : Nat)] 3)) (⟨some ⟨w3.heap.size, 0, none⟩, 3, 1, 1, 1, lnF (i :: l)⟩ :: finR g o.n cap bm (some av) k :: lst A' 3 l.length c' (lnF l) :: blk _ 36 5 (ofL (opL o i)) :: blk bk 69 2 (ofL [.int .u32 d, .int .u32 q]) :: L) [⟨bm, badφ o B⟩]) :=
                HL3.out.step (HL3.out.lay.new #[.int .i64 (i : Nat)] 3 1 1 (lnF (i :: l)) _ rfl rfl (by unfold maxLen; omega) (fun j hj => by
                  have hj : j < 1 := by simpa using hj
                  obtain rfl : j = 0 := by omega
                  rfl)) (.alloc _ _)
              go_wp2_with (at_builtin; refine wpList_ap1 rfl (.tmp 93) (.tmp 94) _ rfl 3 iI _ 8 Try.underlying25 hiI hzI0 hzI1 hzI2 rfl w0.heap.size rfl (HLS.out.lay.own 0 _ rfl) rfl (HLS.out.lay.rd1 2 rfl) (fun _ _ => rfl) (lnF (i :: l)) (fun _ _ => rfl) (fun j hj => by rw [Nat.add_comm]; rfl) (l.length + 1) (by omega) (by unfold maxLen; omega) (by omega) HLS.out.lay.size ?_
                           intro A2 cap2 w4 ho4 hg4 he4
                           have HM := Lib.hid ((HLS.out.app 0 rfl ho4 hg4 he4).swap.drop3)
                           clear ho4 hg4 he4 HLS)
              go_ret2
              exact ⟨_, rfl, .inl ⟨i :: l, A2, cap2, rfl, ⟨hlt, HC.out, HRUN.out⟩, HM.out⟩⟩
            · have HNO := Lib.hid hno
              have HL3 := Lib.hid hl3
              clear hno hl3 HL1
              go_wp2
              go_roundw
              case rel => exact ⟨i + 1, by omega, by go_num, fun t ht => (Nat.lt_succ_iff_lt_or_eq.1 ht).elim (HA.out t) (fun e => by subst e; exact fun h => HNO.out h.2), HL3.out.swap.tail⟩
              case measure => simp [intOf]; omega
          · rw [hwr] at b3
            have HC := Lib.hid (can_yes HX.out HRW.out (.inl hwr : o.wr i = true ∨ o.vl i = nowV o last))
            have HNX : Hid (nextL o last i = (i : Int)) := by show (if o.wr i then (i : Int) else last) = i; rw [hwr]; rfl
            have HNL : Hid (-1 ≤ nextL o last i ∧ nextL o last i < o.n) := by show _ ∧ _; rw [HNX.out]; omega
            clear hwr
            go_wp2_with fail
            refine (show Calls _ _ #[.pointer (some ⟨g, 0, none⟩), .int .u32 ((d ||| 2 ^ i : Nat) : Int), .int .i64 (i : Int)] _ (Gives (FindP o B (d ||| 2 ^ i) (nextL o last i) w0 g cap bm (some av) k (blk _ 36 5 (ofL (opL o i)) :: blk bk 69 2 (ofL [.int .u32 d, .int .u32 q]) :: L))) from by
              have := HI.out (d ||| 2 ^ i) (nextL o last i) _ (blk _ 36 5 (ofL (opL o i)) :: blk bk 69 2 (ofL [.int .u32 d, .int .u32 q]) :: L) (or_lt' HDN.out hlt) HNL.out (by rw [popTo_orbit _ _ _ HX.out, if_pos hlt]; have := HPOP.out; omega) HL1.out.swap
              rw [HNX.out] at this ⊢
              exact this).mono ?_
            rintro e w3 ⟨v, rfl, hP⟩
            rcases hP with ⟨l, A', c', rfl, hrun, hl3⟩ | ⟨rfl, hno, hl3⟩
            · have HRUN := Lib.hid hrun
              have HL3 := Lib.hid hl3
              have hlen : l.length ≤ 8 := by have := run_len (or_lt' HDN.out hlt) hrun; omega
              clear hrun hl3 HL1
              have HLS : Hid (LayM w0 (w3.alloc (.cells #[.int .i64 (i : Nat)] 3)) (⟨some ⟨w3.heap.size, 0, none⟩, 3, 1, 1, 1, lnF (i :: l)⟩ :: finR g o.n cap bm (some av) k :: lst A' 3 l.length c' (lnF l) :: blk _ 36 5 (ofL (opL o i)) :: blk bk 69 2 (ofL [.int .u32 d, .int .u32 q]) :: L) [⟨bm, badφ o B⟩]) :=
                HL3.out.step (HL3.out.lay.new #[.int .i64 (i : Nat)] 3 1 1 (lnF (i :: l)) _ rfl rfl (by unfold maxLen; omega) (fun j hj => by
                  have hj : j < 1 := by simpa using hj
                  obtain rfl : j = 0 := by omega
                  rfl)) (.alloc _ _)
              go_wp2_with (at_builtin; refine wpList_ap1 rfl (.tmp 93) (.tmp 94) _ rfl 3 iI _ 8 Try.underlying25 hiI hzI0 hzI1 hzI2 rfl w0.heap.size rfl (HLS.out.lay.own 0 _ rfl) rfl (HLS.out.lay.rd1 2 rfl) (fun _ _ => rfl) (lnF (i :: l)) (fun _ _ => rfl) (fun j hj => by rw [Nat.add_comm]; rfl) (l.length + 1) (by omega) (by unfold maxLen; omega) (by omega) HLS.out.lay.size ?_
                           intro A2 cap2 w4 ho4 hg4 he4
                           have HM := Lib.hid ((HLS.out.app 0 rfl ho4 hg4 he4).swap.drop3)
                           clear ho4 hg4 he4 HLS)
              go_ret2
              exact ⟨_, rfl, .inl ⟨i :: l, A2, cap2, rfl, ⟨hlt, HC.out, HRUN.out⟩, HM.out⟩⟩
            · have HNO := Lib.hid hno
              have HL3 := Lib.hid hl3
              clear hno hl3 HL1
              go_wp2
              go_roundw
              case rel => exact ⟨i + 1, by omega, by go_num, fun t ht => (Nat.lt_succ_iff_lt_or_eq.1 ht).elim (HA.out t) (fun e => by subst e; exact fun h => HNO.out h.2), HL3.out.swap.tail⟩
              case measure => simp [intOf]; omega
        · obtain rfl : i = o.n := by omega
          have HN := Lib.hid (fin_no HF.out HA.out)
          obtain ⟨w', hmu, hL'⟩ := bad_put d q HL.out.drew hd32 hq9 (by rw [← HLQ.out]; exact HN.out)
          have HL2 := Lib.hid hL'
          have c0 := HL.out.lay.cellB 0 rfl 0 (by omega)
          have c1 := HL.out.lay.cellB 0 rfl 1 (by omega)
          have c2 := HL.out.lay.cellB 0 rfl 2 (by omega)
          simp only [ofL_0, ofL_1, ofL_2] at c0 c1 c2
          have k0 := HL.out.lay.cellB 1 rfl 0 (by omega)
          have k1 := HL.out.lay.cellB 1 rfl 1 (by omega)
          simp only [ofL_0, ofL_1] at k0 k1
          clear hL'
          go_wp2
          refine wp_text 5 (by kernel_rfl) (by kernel_rfl) (by kernel_rfl) (by repeat' (first | (with_reducible apply tame_then) | (with_reducible apply tame_block) | (with_reducible apply tame_scope) | exact tame_gives | exact tame_body (fun _ _ h => ⟨_, h.1⟩))) ?_
          simp only [List.take_succ_cons, List.take_zero, List.drop_succ_cons, List.drop_zero]
          go_wp2
          refine headed ?_
          go_wp2
          go_ret2
          exact ⟨_, rfl, .inr ⟨rfl, HN.out, HL2.out.swap.tail⟩⟩
    · have HNW : Hid (nowV o last = 0) := if_neg hl1
      have hl1 : last < 0 := by omega
      refine wp_text_all (by kernel_rfl) (by kernel_rfl) (by kernel_rfl) (by repeat' (first | (with_reducible apply tame_then) | (with_reducible apply tame_block) | (with_reducible apply tame_scope) | exact tame_gives | exact tame_body (fun _ _ h => ⟨_, h.1⟩))) ?_
      go_wp2
      refine headed ?_
      go_wp2
      clear hlk k0 k1 c0 c1 c2
      go_loopw [50] (fun x wr => ∃ i : Nat, i ≤ o.n ∧ x = .int .i64 i ∧ Hid (∀ t, t < i → ¬ (canB o B d last t = true ∧ Fin o B (d ||| 2 ^ t) (nextL o last t))) ∧ Hid (LayM w0 wr (finR g o.n cap bm (some av) k :: blk bk 69 2 (ofL [.int .u32 d, .int .u32 q]) :: L) [⟨bm, badφ o B⟩])) (fun x _ => o.n - (intOf x).toNat)
      case atStart => exact ⟨0, by omega, rfl, fun t ht => absurd ht (by omega), HW.out.sim ⟨rfl, rfl, rfl, rfl⟩⟩
      case round =>
        clear HW
        obtain ⟨i, hi, rfl, HA, HL⟩ := hrel
        by_cases hlt : i < o.n
        · obtain ⟨c0, c1, c2, c3, c4⟩ := HOC.out wr HL.out.lay.bel i hlt
          have HLB := Lib.hid (HL.out.newB (opL o i) 36 5 rfl _ rfl)
          have hb1 := bit_at (i := i) hd32
          cases hx : d.testBit i
          case true =>
            rw [hx] at hb1
            have HN := Lib.hid (can_bit (o := o) (B := B) (last := last) hx)
            clear hx
            go_wp2
            go_roundw
            case rel => exact ⟨i + 1, by omega, by go_num, fun t ht => (Nat.lt_succ_iff_lt_or_eq.1 ht).elim (HA.out t) (fun e => by subst e; rw [HN.out]; exact fun h => by cases h.1), HLB.out.tail⟩
            case measure => simp [intOf]; omega
          have HX := Lib.hid hx
          rw [hx] at hb1
          obtain ⟨r, hr⟩ : ∃ r, lnWaitB B o.n d i = r := ⟨_, rfl⟩
          have HRW := Lib.hid hr
          clear hx hr
          go_wp2_with fail
          refine (waits_any o B k HB.out HEG.out (some av) cap g w0 _ d i (.int .i64 0) HO.out HLB.out.lay.bel hO HDN.out (by have := HLB.out.lay.cellB 1 rfl 0 (by omega); simpa [ofL_0] using this) (by have := HLB.out.lay.cellB 1 rfl 1 (by omega); simpa [ofL_1] using this) r HRW.out).mono ?_
          rintro e w1 ⟨rfl, hw1⟩
          have HL1 := Lib.hid (HLB.out.keep hw1)
          clear hw1 HLB
          cases r
          case true =>
            have HN := Lib.hid (can_wait (o := o) (last := last) HRW.out)
            go_wp2
            go_roundw
            case rel => exact ⟨i + 1, by omega, by go_num, fun t ht => (Nat.lt_succ_iff_lt_or_eq.1 ht).elim (HA.out t) (fun e => by subst e; rw [HN.out]; exact fun h => by cases h.1), HL1.out.tail⟩
            case measure => simp [intOf]; omega
          have b3 := HL1.out.lay.cellB 0 rfl 3 (by omega)
          have b4 := HL1.out.lay.cellB 0 rfl 4 (by omega)
          simp only [opL, ofL_3, ofL_4] at b3 b4
          have hor := or_pow (m := i) hd32 (by omega)
          cases hwr : o.wr i
          · rw [hwr] at b3
            have HWR := Lib.hid hwr
            clear hwr
            cases hv : (o.vl i != (0 : Int))
            case true =>
              have HN := Lib.hid (can_val (B := B) (d := d) (last := last) HWR.out (by rw [HNW.out]; exact bne_iff_ne.1 hv))
              go_wp2
              go_roundw
              case rel => exact ⟨i + 1, by omega, by go_num, fun t ht => (Nat.lt_succ_iff_lt_or_eq.1 ht).elim (HA.out t) (fun e => by subst e; rw [HN.out]; exact fun h => by cases h.1), HL1.out.tail⟩
              case measure => simp [intOf]; omega
            have HC := Lib.hid (can_yes HX.out HRW.out (.inr (by rw [HNW.out]; exact bne_eq_false_iff_eq.1 hv) : o.wr i = true ∨ o.vl i = nowV o last))
            have HNX : Hid (nextL o last i = last) := by show (if o.wr i then (i : Int) else last) = last; rw [HWR.out]; rfl
            have HNL : Hid (-1 ≤ nextL o last i ∧ nextL o last i < o.n) := by show _ ∧ _; rw [HNX.out]; exact hl
            go_wp2_with fail
            refine (show Calls _ _ #[.pointer (some ⟨g, 0, none⟩), .int .u32 ((d ||| 2 ^ i : Nat) : Int), .int .i64 last] _ (Gives (FindP o B (d ||| 2 ^ i) (nextL o last i) w0 g cap bm (some av) k (blk _ 36 5 (ofL (opL o i)) :: blk bk 69 2 (ofL [.int .u32 d, .int .u32 q]) :: L))) from by
              have := HI.out (d ||| 2 ^ i) (nextL o last i) _ (blk _ 36 5 (ofL (opL o i)) :: blk bk 69 2 (ofL [.int .u32 d, .int .u32 q]) :: L) (or_lt' HDN.out hlt) HNL.out (by rw [popTo_orbit _ _ _ HX.out, if_pos hlt]; have := HPOP.out; omega) HL1.out.swap
              rw [HNX.out] at this ⊢
              exact this).mono ?_
            rintro e w3 ⟨v, rfl, hP⟩
            rcases hP with ⟨l, A', c', rfl, hrun, hl3⟩ | ⟨rfl, hno, hl3⟩
            · have HRUN := Lib.hid hrun
              have HL3 := Lib.hid hl3
              have hlen : l.length ≤ 8 := by have := run_len (or_lt' HDN.out hlt) hrun; omega
              clear hrun hl3 HL1
              have HLS : Hid (LayM w0 (w3.alloc (.cells #[.int .i64 (i : Nat)] 3)) (⟨some ⟨w3.heap.size, 0, none⟩, 3, 1, 1, 1, lnF (i :: l)⟩ :: finR g o.n cap bm (some av) k :: lst A' 3 l.length c' (lnF l) :: blk _ 36 5 (ofL (opL o i)) :: blk bk 69 2 (ofL [.int .u32 d, .int .u32 q]) :: L) [⟨bm, badφ o B⟩]) :=
                HL3.out.step (HL3.out.lay.new #[.int .i64 (i : Nat)] 3 1 1 (lnF (i :: l)) _ rfl rfl (by unfold maxLen; omega) (fun j hj => by
                  have hj : j < 1 := by simpa using hj
                  obtain rfl : j = 0 := by omega
                  rfl)) (.alloc _ _)
              go_wp2_with (at_builtin; refine wpList_ap1 rfl (.tmp 93) (.tmp 94) _ rfl 3 iI _ 8 Try.underlying25 hiI hzI0 hzI1 hzI2 rfl w0.heap.size rfl (HLS.out.lay.own 0 _ rfl) rfl (HLS.out.lay.rd1 2 rfl) (fun _ _ => rfl) (lnF (i :: l)) (fun _ _ => rfl) (fun j hj => by rw [Nat.add_comm]; rfl) (l.length + 1) (by omega) (by unfold maxLen; omega) (by omega) HLS.out.lay.size ?_
                           intro A2 cap2 w4 ho4 hg4 he4
                           have HM := Lib.hid ((HLS.out.app 0 rfl ho4 hg4 he4).swap.drop3)
                           clear ho4 hg4 he4 HLS)
              go_ret2
              exact ⟨_, rfl, .inl ⟨i :: l, A2, cap2, rfl, ⟨hlt, HC.out, HRUN.out⟩, HM.out⟩⟩
            · have HNO := Lib.hid hno
              have HL3 := Lib.hid hl3
              clear hno hl3 HL1
              go_wp2
              go_roundw
              case rel => exact ⟨i + 1, by omega, by go_num, fun t ht => (Nat.lt_succ_iff_lt_or_eq.1 ht).elim (HA.out t) (fun e => by subst e; exact fun h => HNO.out h.2), HL3.out.swap.tail⟩
              case measure => simp [intOf]; omega
          · rw [hwr] at b3
            have HC := Lib.hid (can_yes HX.out HRW.out (.inl hwr : o.wr i = true ∨ o.vl i = nowV o last))
            have HNX : Hid (nextL o last i = (i : Int)) := by show (if o.wr i then (i : Int) else last) = i; rw [hwr]; rfl
            have HNL : Hid (-1 ≤ nextL o last i ∧ nextL o last i < o.n) := by show _ ∧ _; rw [HNX.out]; omega
            clear hwr
            go_wp2_with fail
            refine (show Calls _ _ #[.pointer (some ⟨g, 0, none⟩), .int .u32 ((d ||| 2 ^ i : Nat) : Int), .int .i64 (i : Int)] _ (Gives (FindP o B (d ||| 2 ^ i) (nextL o last i) w0 g cap bm (some av) k (blk _ 36 5 (ofL (opL o i)) :: blk bk 69 2 (ofL [.int .u32 d, .int .u32 q]) :: L))) from by
              have := HI.out (d ||| 2 ^ i) (nextL o last i) _ (blk _ 36 5 (ofL (opL o i)) :: blk bk 69 2 (ofL [.int .u32 d, .int .u32 q]) :: L) (or_lt' HDN.out hlt) HNL.out (by rw [popTo_orbit _ _ _ HX.out, if_pos hlt]; have := HPOP.out; omega) HL1.out.swap
              rw [HNX.out] at this ⊢
              exact this).mono ?_
            rintro e w3 ⟨v, rfl, hP⟩
            rcases hP with ⟨l, A', c', rfl, hrun, hl3⟩ | ⟨rfl, hno, hl3⟩
            · have HRUN := Lib.hid hrun
              have HL3 := Lib.hid hl3
              have hlen : l.length ≤ 8 := by have := run_len (or_lt' HDN.out hlt) hrun; omega
              clear hrun hl3 HL1
              have HLS : Hid (LayM w0 (w3.alloc (.cells #[.int .i64 (i : Nat)] 3)) (⟨some ⟨w3.heap.size, 0, none⟩, 3, 1, 1, 1, lnF (i :: l)⟩ :: finR g o.n cap bm (some av) k :: lst A' 3 l.length c' (lnF l) :: blk _ 36 5 (ofL (opL o i)) :: blk bk 69 2 (ofL [.int .u32 d, .int .u32 q]) :: L) [⟨bm, badφ o B⟩]) :=
                HL3.out.step (HL3.out.lay.new #[.int .i64 (i : Nat)] 3 1 1 (lnF (i :: l)) _ rfl rfl (by unfold maxLen; omega) (fun j hj => by
                  have hj : j < 1 := by simpa using hj
                  obtain rfl : j = 0 := by omega
                  rfl)) (.alloc _ _)
              go_wp2_with (at_builtin; refine wpList_ap1 rfl (.tmp 93) (.tmp 94) _ rfl 3 iI _ 8 Try.underlying25 hiI hzI0 hzI1 hzI2 rfl w0.heap.size rfl (HLS.out.lay.own 0 _ rfl) rfl (HLS.out.lay.rd1 2 rfl) (fun _ _ => rfl) (lnF (i :: l)) (fun _ _ => rfl) (fun j hj => by rw [Nat.add_comm]; rfl) (l.length + 1) (by omega) (by unfold maxLen; omega) (by omega) HLS.out.lay.size ?_
                           intro A2 cap2 w4 ho4 hg4 he4
                           have HM := Lib.hid ((HLS.out.app 0 rfl ho4 hg4 he4).swap.drop3)
                           clear ho4 hg4 he4 HLS)
              go_ret2
              exact ⟨_, rfl, .inl ⟨i :: l, A2, cap2, rfl, ⟨hlt, HC.out, HRUN.out⟩, HM.out⟩⟩
            · have HNO := Lib.hid hno
              have HL3 := Lib.hid hl3
              clear hno hl3 HL1
              go_wp2
              go_roundw
              case rel => exact ⟨i + 1, by omega, by go_num, fun t ht => (Nat.lt_succ_iff_lt_or_eq.1 ht).elim (HA.out t) (fun e => by subst e; exact fun h => HNO.out h.2), HL3.out.swap.tail⟩
              case measure => simp [intOf]; omega
        · obtain rfl : i = o.n := by omega
          have HN := Lib.hid (fin_no HF.out HA.out)
          obtain ⟨w', hmu, hL'⟩ := bad_put d q HL.out.drew hd32 hq9 (by rw [← HLQ.out]; exact HN.out)
          have HL2 := Lib.hid hL'
          have c0 := HL.out.lay.cellB 0 rfl 0 (by omega)
          have c1 := HL.out.lay.cellB 0 rfl 1 (by omega)
          have c2 := HL.out.lay.cellB 0 rfl 2 (by omega)
          simp only [ofL_0, ofL_1, ofL_2] at c0 c1 c2
          have k0 := HL.out.lay.cellB 1 rfl 0 (by omega)
          have k1 := HL.out.lay.cellB 1 rfl 1 (by omega)
          simp only [ofL_0, ofL_1] at k0 k1
          clear hL'
          go_wp2
          refine wp_text 5 (by kernel_rfl) (by kernel_rfl) (by kernel_rfl) (by repeat' (first | (with_reducible apply tame_then) | (with_reducible apply tame_block) | (with_reducible apply tame_scope) | exact tame_gives | exact tame_body (fun _ _ h => ⟨_, h.1⟩))) ?_
          simp only [List.take_succ_cons, List.take_zero, List.drop_succ_cons, List.drop_zero]
          go_wp2
          refine headed ?_
          go_wp2
          go_ret2
          exact ⟨_, rfl, .inr ⟨rfl, HN.out, HL2.out.swap.tail⟩⟩
end Go.Proofs.Ytoakgoigamigjaa
