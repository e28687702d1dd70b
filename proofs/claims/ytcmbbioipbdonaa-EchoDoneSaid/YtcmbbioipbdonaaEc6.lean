/- The walk of echo.Play: who is joined with whom. -/
import Derived.Test.YtcmbbioipbdonaaEc5
import Derived.Test.YtcmbbioipbdonaaEc2
import Derived.Test.YtcmbbioipbdonaaEcB
import Derived.Test.YtcmbbioipbdonaaNewC
import Derived.Test.YtcmbbioipbdonaaRepI
set_option linter.unusedVariables false
set_option linter.unusedSimpArgs false
namespace Go.Proofs.Ytcmbbioipbdonaa
open Go.RowKit

theorem infoErrE : (Try.prog.info? 27).map (fun i => (i.zero, i.size, i.bytes)) = some (some (.int .i64 0), 1, 8) := by kernel_rfl
theorem infoIntE : (Try.prog.info? 3).map (fun i => (i.zero, i.size, i.bytes)) = some (some (.int .i64 0), 1, 8) := by kernel_rfl
theorem infoRowE : (Try.prog.info? 23).map (fun i => (i.zero, i.size, i.bytes)) = some (some (.slice none 0 0), 1, 24) := by kernel_rfl
abbrev blkE (b : Nat) : LRow := blk b 26 4 (ofL [.slice none 0 0, .slice none 0 0, .bool false, .int .i64 0])
abbrev lstE (A : Option Addr) (m cap : Nat) (fc : Nat → Int) : LRow := lst A 27 m cap (fun i => .int .i64 (fc i))
abbrev lkR (q : Nat) (x y : Int) : LRow := blk q 32 2 (ofL [.int .i64 x, .int .i64 y])
section
variable {b gn n gt gf cf : Nat} {A : Option Addr} {cap : Nat} {fv : Nat → Value} {R : List LRow} {w0 : World} {s : ES} {w : World}
/-- One row has one more. -/
theorem LayW.near1 (h : LayW b gn n gt gf cf A cap fv R w0 s w) {a x : Nat} (ha : a < n) {v' : Value} {w' : World} (ho : QSl w' w0.heap.size 3 v' (nearV s a ++ [.int .i64 (x : Nat)])) (hg : w.grownBy w' (fv a).ownBlock) (hb : v'.ownBlock = (fv a).ownBlock ∨ v'.ownBlock = some w.heap.size) :
    LayW b gn n gt gf cf A cap (upd fv a v') R w0 { s with near := upd s.near a (s.near a ++ [x]) } (w'.setCell ⟨gn, a, none⟩ v') := by
  have h1 := (h.push a ho hg hb).upd (mk := fun v => v) 2 v' rfl ha
  refine h1.sameQ fun i => ?_
  show (upd s.near a (s.near a ++ [x]) i).map _ = _
  unfold upd qput
  split
  · rename_i h2; subst h2; rw [List.map_append]; rfl
  · rfl
/-- The rows alone are said anew. -/
theorem LayW.same {s' : ES} (h : LayW b gn n gt gf cf A cap fv R w0 s w) (h1 : ∀ i, s'.near i = s.near i) (h2 : s'.way = s.way) (h3 : s'.wait = s.wait) (h4 : s'.frm = s.frm) (h5 : s'.sent = s.sent) : LayW b gn n gt gf cf A cap fv R w0 s' w := by
  obtain rfl : s' = s := by
    cases s; cases s'
    simp only at h1 h2 h3 h4 h5
    obtain rfl := funext h1
    subst h2 h3 h4 h5
    rfl
  exact h
end
def bs0 (N : Nat → List Nat) : ES := ⟨N, [], fun _ => 0, fun _ => -1, 0⟩
theorem near_half {p q : Nat → Nat} {k : Nat} (hne : p k ≠ q k) : upd (upd (nearK p q k) (p k) (nearK p q k (p k) ++ [q k])) (q k) (upd (nearK p q k) (p k) (nearK p q k (p k) ++ [q k]) (q k) ++ [p k]) = nearK p q (k + 1) := by
  funext i
  rw [nearK_succ]
  unfold upd
  by_cases h1 : i = q k
  · subst h1
    rw [if_pos rfl, if_neg (fun e => hne e.symm), if_neg (fun e => hne e.symm), if_pos rfl]
  · rw [if_neg h1, if_neg h1]
    by_cases h2 : i = p k
    · subst h2; simp
    · rw [if_neg h2, if_neg h2]
/-- What the loads of 'w.near[x] = append(w.near[x], y)' read. -/
def NrS (b gn q n a : Nat) (x y : Int) (v : Value) (w : World) : Prop :=
  w.cell? ⟨b, 0, none⟩ = some (.slice (some ⟨gn, 0, none⟩) n n) ∧ w.cell? ⟨q, 0, none⟩ = some (.int .i64 x) ∧ w.cell? ⟨q, 1, none⟩ = some (.int .i64 y) ∧ w.cell? ⟨gn, a, none⟩ = some v
/-- What the region that makes the wave yields. -/
def newE (n s : Nat) (i : Nat) : Value → Nat → World → Prop := match i with
  | 0 => isV (.int .i64 n)
  | 1 => isNewV (fun g => .slice (some ⟨g, 0, none⟩) n n) (.cells (madeCells #[.slice none 0 0] n) 23)
  | 2 => isV (.int .i64 n)
  | 3 => isNewV (fun g => .slice (some ⟨g, 0, none⟩) n n) (.cells (madeCells #[.int .i64 0] n) 3)
  | 4 => isNewV (fun g => .slice (some ⟨g, 0, none⟩) 1 1) (.cells #[.int .i64 (-1)] 3)
  | 5 => isV (.int .i64 n)
  | 6 => isRow s 3 1 n (fun _ => .int .i64 (-1))
  | _ => fun _ _ _ => False
def newEB (i : Nat) : Bool := i == 1 || i == 3 || i == 4 || i == 6
theorem newE_keep (n s : Nat) (i : Nat) (v : Value) (g : Nat) (w1 w2 : World) (h : newE n s i v g w1) (hb : Below w1.heap.size w1 w2) : newE n s i v g w2 := by
  rcases i with _ | _ | _ | _ | _ | _ | _ | i
  · exact h
  · exact isNewV_keep (f := fun g => .slice (some ⟨g, 0, none⟩) n n) (ob := .cells (madeCells #[.slice none 0 0] n) 23) h hb
  · exact h
  · exact isNewV_keep (f := fun g => .slice (some ⟨g, 0, none⟩) n n) (ob := .cells (madeCells #[.int .i64 0] n) 3) h hb
  · exact isNewV_keep (f := fun g => .slice (some ⟨g, 0, none⟩) 1 1) (ob := .cells #[.int .i64 (-1)] 3) h hb
  · exact h
  · exact isRow_keep h hb
  · exact h
theorem wrong_bad {n st : Int} {A AO : Option Addr} {m cap mo co B : Nat} {p q : Nat → Int} {w : World} (hm : m ≤ cap ∧ cap ≤ maxLen) (hmo : mo ≤ maxLen) (hB : B ≤ w.heap.size) (hr : Rd w B A (m * 2) (recF2 p q)) (h : ¬ LkOk n m p q st mo) :
    Calls Try.prog 11 #[.int .i64 n, .slice A m cap, .int .i64 st, .slice AO mo co] w (Gives fun v w' => (∃ c : Int, v = .int .i64 c ∧ (c == 0) = false) ∧ Below w.heap.size w w') := by
  refine (wrong_any n st A AO m cap mo co B p q w hm hmo hB hr).mono ?_
  rintro e w' ⟨v, rfl, c, rfl, hc, hb⟩
  exact ⟨_, rfl, ⟨c, rfl, by rw [beq_eq_false_iff_ne]; exact fun e => h (hc.1 e)⟩, hb⟩
theorem wrong_good {n st : Int} {A AO : Option Addr} {m cap mo co B : Nat} {p q : Nat → Int} {w : World} (hm : m ≤ cap ∧ cap ≤ maxLen) (hmo : mo ≤ maxLen) (hB : B ≤ w.heap.size) (hr : Rd w B A (m * 2) (recF2 p q)) (h : LkOk n m p q st mo) :
    Calls Try.prog 11 #[.int .i64 n, .slice A m cap, .int .i64 st, .slice AO mo co] w (Gives fun v w' => v = .int .i64 0 ∧ Below w.heap.size w w') := by
  refine (wrong_any n st A AO m cap mo co B p q w hm hmo hB hr).mono ?_
  rintro e w' ⟨v, rfl, c, rfl, hc, hb⟩
  obtain rfl : c = 0 := hc.2 h
  exact ⟨_, rfl, rfl, hb⟩
set_option maxRecDepth 100000 in
set_option maxHeartbeats 1600000 in
theorem play_bad (n st : Int) (A AO : Option Addr) (m cap mo co B : Nat) (p q : Nat → Int) (w : World) (hm : m ≤ cap ∧ cap ≤ maxLen) (hmo : mo ≤ maxLen) (hB : B ≤ w.heap.size) (hr : Rd w B A (m * 2) (recF2 p q)) (h : ¬ LkOk n m p q st mo) :
    Calls Try.prog 6 #[.int .i64 n, .slice A m cap, .int .i64 st, .slice AO mo co] w (Gives fun v w' => (∃ c : Int, v = .tuple #[.agg #[.slice none 0 0, .slice none 0 0, .bool false, .int .i64 0], .int .i64 c] ∧ (c == 0) = false) ∧ Below w.heap.size w w') := by
  have HR := Lib.hid hr; clear hr
  have HM := Lib.hid hm; clear hm
  have HN := Lib.hid h; clear h
  have HL0 := Lib.hid ((Lay.nil w).newB [.slice none 0 0, .slice none 0 0, .bool false, .int .i64 0] 26 4 rfl w.heap.size rfl)
  go_enter Try.func6, Try.ntmps6
  go_wp2_with fail
  refine at_lay (F := fun W' => Calls _ _ _ W' _) HL0.out ?_
  intro W hW
  have HW := Lib.hid hW
  clear hW HL0
  generalize w.heap.size = be at HW ⊢
  refine (wrong_bad HM.out hmo (Nat.le_trans hB HW.out.size) (HR.out.below (HW.out.bel.mono hB)) HN.out).mono ?_
  rintro e w1 ⟨v, rfl, ⟨c, rfl, hc⟩, hb⟩
  have H1 := Lib.hid (HW.out.keep hb)
  clear hb HW
  have c0 := H1.out.cellB 0 rfl 0 (by omega)
  have c1 := H1.out.cellB 0 rfl 1 (by omega)
  have c2 := H1.out.cellB 0 rfl 2 (by omega)
  have c3 := H1.out.cellB 0 rfl 3 (by omega)
  have f0 := H1.out.frz 0 rfl (by omega) 0
  have f1 := H1.out.frz 0 rfl (by omega) 1
  have f2 := H1.out.frz 0 rfl (by omega) 2
  have f3 := H1.out.frz 0 rfl (by omega) 3
  simp only [ofL_0, ofL_1, ofL_2, ofL_3] at c0 c1 c2 c3
  have HF := Lib.hid ((((H1.out.fld 0 0 (.slice none 0 0) rfl (by omega) (by simp)).fld 0 1 (.slice none 0 0) rfl (by omega) (by simp)).fld 0 2 (.bool false) rfl (by omega) (by simp)).fld 0 3 (.int .i64 0) rfl (by omega) (by simp))
  have HC := Lib.hid hc
  go_wp2
  have HF2 := HF.out
  clear c0 c1 c2 c3 f0 f1 f2 f3 HF H1
  generalize (((w1.setCell ⟨be, 0, none⟩ (.slice none 0 0)).setCell ⟨be, 1, none⟩ (.slice none 0 0)).setCell ⟨be, 2, none⟩ (.bool false)).setCell ⟨be, 3, none⟩ (.int .i64 0) = W8 at HF2 ⊢
  have r0 : W8.cell? ⟨be, 0, none⟩ = some (.slice none 0 0) := HF2.cellB 0 rfl 0 (by omega)
  have r1 : W8.cell? ⟨be, 1, none⟩ = some (.slice none 0 0) := HF2.cellB 0 rfl 1 (by omega)
  have r2 : W8.cell? ⟨be, 2, none⟩ = some (.bool false) := HF2.cellB 0 rfl 2 (by omega)
  have r3 : W8.cell? ⟨be, 3, none⟩ = some (.int .i64 0) := HF2.cellB 0 rfl 3 (by omega)
  exact bodyPost_ret (v := .tuple #[.agg #[.slice none 0 0, .slice none 0 0, .bool false, .int .i64 0], .int .i64 c]) (by simp [results, Try.results6, go_sem, r0, r1, r2, r3]) rfl ⟨_, rfl, ⟨c, rfl, HC.out⟩, HF2.bel⟩
end Go.Proofs.Ytcmbbioipbdonaa
