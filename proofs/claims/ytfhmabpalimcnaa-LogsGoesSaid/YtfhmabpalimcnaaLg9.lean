/- What the walk of logs.Play asks: rows that come and go. -/
import Derived.Test.YtfhmabpalimcnaaLg8
import Derived.Test.YtfhmabpalimcnaaLgC
import Derived.Test.YtfhmabpalimcnaaLaS
import Derived.Test.YtfhmabpalimcnaaNewC
set_option linter.unusedVariables false
set_option linter.unusedSimpArgs false
namespace Go.Proofs.Ytfhmabpalimcnaa
open Go.RowKit

theorem Lay.rebase {u w W : World} {L : List LRow} (h : Lay u w L) (hle : W.heap.size ≤ u.heap.size) (hb : Below W.heap.size W w) : Lay W w L := ⟨fun k r hk => (h.own k r hk).base_le hle, h.ap, hb⟩
/-- Rows that are nil. -/
theorem Lay.nils {w0 w : World} {L : List LRow} (h : Lay w0 w L) : ∀ rs : List LRow, (∀ r ∈ rs, r.a = none ∧ r.n = 0 ∧ r.cap = 0) → Lay w0 w (rs ++ L)
  | [], _ => h
  | r :: rs, hr => by
    obtain ⟨h1, h2, h3⟩ := hr r (List.mem_cons_self ..)
    refine (h.nils rs fun s hs => hr s (List.mem_cons_of_mem _ hs)).cons (r := r) ?_ fun _ _ _ => .inl (by rw [h1]; rfl)
    rw [h1, h2, h3]; exact Own.nil_ ..
/-- Some rows go behind others. -/
theorem Lay.swapL {w0 w : World} {X P R : List LRow} (h : Lay w0 w (X ++ (P ++ R))) : Lay w0 w (P ++ (X ++ R)) := by
  refine h.pick (fun k => if k < P.length then X.length + k else if k < P.length + X.length then k - P.length else k) (fun i j _ _ hij => ?_) fun k hk => ?_
  · by_cases a : i < P.length <;> by_cases b : j < P.length <;> by_cases c : i < P.length + X.length <;> by_cases d : j < P.length + X.length <;> simp [a, b, c, d] at hij <;> omega
  · by_cases a : k < P.length
    · rw [if_pos a, List.getElem?_append_left a, List.getElem?_append_right (by omega), Nat.add_sub_cancel_left, List.getElem?_append_left a]
    · rw [if_neg a, List.getElem?_append_right (by omega)]
      by_cases b : k < P.length + X.length
      · rw [if_pos b, List.getElem?_append_left (by omega), List.getElem?_append_left (by omega)]
      · rw [if_neg b, List.getElem?_append_right (by omega), List.getElem?_append_right (by omega), List.getElem?_append_right (by omega)]
        congr 1; omega
theorem Lay.drops {w0 w : World} {X L : List LRow} (h : Lay w0 w (X ++ L)) : Lay w0 w L := by
  refine h.pick (fun k => X.length + k) (fun i j _ _ hij => ?_) fun k hk => ?_
  · omega
  · rw [List.getElem?_append_right (by omega), Nat.add_sub_cancel_left]
section
variable {gg g gl lo n : Nat} {e : ES} {A : Option Addr} {cap : Nat} {F : Nat → Value} {fr : Nat → LRow} {R : List LRow} {w0 w : World}
theorem lg_tl (k : Nat) : (rowsF gg g gl lo n e A cap F fr R)[5 + 3 * n + k]? = R[k]? := by
  show (headF gg g gl lo n e A cap F fr ++ R)[5 + 3 * n + k]? = _
  have hl : (headF gg g gl lo n e A cap F fr).length = 5 + 3 * n := by simp [headF]; omega
  rw [List.getElem?_append_right (by omega), hl, Nat.add_sub_cancel_left]
theorem lg_tlset (k : Nat) (r : LRow) : (rowsF gg g gl lo n e A cap F fr R).set (5 + 3 * n + k) r = rowsF gg g gl lo n e A cap F fr (R.set k r) := by
  show (headF gg g gl lo n e A cap F fr ++ R).set (5 + 3 * n + k) r = headF gg g gl lo n e A cap F fr ++ R.set k r
  have hl : (headF gg g gl lo n e A cap F fr).length = 5 + 3 * n := by simp [headF]; omega
  rw [List.set_append_right _ _ (by omega), hl, Nat.add_sub_cancel_left]
/-- The last rows in another order, or fewer. -/
theorem lg_perm {R' : List LRow} (h : Lay w0 w (rowsF gg g gl lo n e A cap F fr R)) (p : List Nat) (hnd : p.Nodup) (hL : R'.map some = p.map fun i => R[i]?) : Lay w0 w (rowsF gg g gl lo n e A cap F fr R') := by
  have hl : (headF gg g gl lo n e A cap F fr).length = 5 + 3 * n := by simp [headF]; omega
  have hlen : R'.length = p.length := by have := congrArg List.length hL; simpa using this
  have hp : ∀ k, k < R'.length → R'[k]? = R[p.getD k 0]? := fun k hk => by
    have := congrArg (fun l => l[k]?) hL
    simp only [List.getElem?_map, List.getElem?_eq_getElem hk, List.getElem?_eq_getElem (show k < p.length by omega), Option.map_some] at this
    injection this with this
    rw [List.getElem?_eq_getElem hk, this, List.getD_eq_getElem?_getD, List.getElem?_eq_getElem (show k < p.length by omega)]; rfl
  show Lay w0 w (headF gg g gl lo n e A cap F fr ++ R')
  have h : Lay w0 w (headF gg g gl lo n e A cap F fr ++ R) := h
  refine h.pick (fun k => if k < 5 + 3 * n then k else 5 + 3 * n + p.getD (k - (5 + 3 * n)) 0) (fun i j hi hj hij => ?_) fun k hk => ?_
  · rw [List.length_append, hl] at hi hj
    by_cases a : i < 5 + 3 * n <;> by_cases b : j < 5 + 3 * n
    · simpa [a, b] using hij
    · rw [if_pos a, if_neg b] at hij; omega
    · rw [if_neg a, if_pos b] at hij; omega
    · rw [if_neg a, if_neg b] at hij
      have e1 : p[i - (5 + 3 * n)]? = p[j - (5 + 3 * n)]? := by
        have x1 : i - (5 + 3 * n) < p.length := by omega
        have x2 : j - (5 + 3 * n) < p.length := by omega
        have : p.getD (i - (5 + 3 * n)) 0 = p.getD (j - (5 + 3 * n)) 0 := by omega
        rw [List.getD_eq_getElem?_getD, List.getD_eq_getElem?_getD, List.getElem?_eq_getElem x1, List.getElem?_eq_getElem x2] at this
        rw [List.getElem?_eq_getElem x1, List.getElem?_eq_getElem x2]
        simpa using this
      have := (List.getElem?_inj (i := i - (5 + 3 * n)) (j := j - (5 + 3 * n)) (by omega) hnd).1 e1
      omega
  · rw [List.length_append, hl] at hk
    by_cases a : k < 5 + 3 * n
    · rw [if_pos a, List.getElem?_append_left (by omega), List.getElem?_append_left (by omega)]
    · rw [if_neg a, List.getElem?_append_right (by omega), List.getElem?_append_right (by omega), hl, Nat.add_sub_cancel_left, hp _ (by omega)]
end
theorem lg_flip {gg g gl lo n : Nat} {e : ES} {A : Option Addr} {cap : Nat} {F : Nat → Value} {fr : Nat → LRow} {R : List LRow} {w0 w : World} (h : Lay w0 w (rowsF gg g gl lo n e A cap F fr R)) : Lay w0 w (R ++ rowsF gg g gl lo n e A cap F fr []) := by
  have h1 : Lay w0 w (headF gg g gl lo n e A cap F fr ++ (R ++ [])) := by rw [List.append_nil]; exact h
  exact h1.swapL
theorem lay_cellN {rows : List LRow} {ks : Nat → Nat} {ls : List LaneR} {w0 w w1 : World} (h : Lay w0 w rows) (hk : LaysAt rows ks ls) (hkp : Kept (LX ls) w w1) (j : Nat) {g : Nat} {ty : TypeId} {sz n cap : Nat} {F : Nat → Value} (hj : rows[j]? = some ⟨some ⟨g, 0, none⟩, ty, sz, n, cap, F⟩) (hne : ∀ r ∈ ls, ks r.ja ≠ j) (o : Nat) (ho : o < n * sz) : w1.cell? ⟨g, o, none⟩ = some (F o) :=
  (hkp.cell (p := ⟨g, o, none⟩) (h.at_ j hj).2 (lx_not h hk j hj hne)).trans (h.cell j hj ho)
theorem term_b (g gl n i : Nat) (x : Nat) (w : World) (hi : i < n) (c0 : w.cell? ⟨g, 0, none⟩ = some (.slice (some ⟨gl, 0, none⟩) n n)) (r0 : w.cell? ⟨gl, i * 4, none⟩ = some (.int .i64 (x : Nat))) :
    Calls Try.prog 15 #[.pointer (some ⟨g, 0, none⟩), .int .i64 i] w fun r w' => ∃ v, r = .returned v ∧ isX (.int .i64 (x : Nat)) v w' ∧ Below w.heap.size w w' := by
  go_enter Try.func15, Try.ntmps15
  go_wp2
  go_ret
  exact ⟨_, rfl, rfl, Below.refl _ _⟩
theorem role_b (g gl n i : Nat) (x : Int) (w : World) (hi : i < n) (c0 : w.cell? ⟨g, 0, none⟩ = some (.slice (some ⟨gl, 0, none⟩) n n)) (r0 : w.cell? ⟨gl, i * 4 + 1, none⟩ = some (.int .i64 x)) :
    Calls Try.prog 16 #[.pointer (some ⟨g, 0, none⟩), .int .i64 i] w fun r w' => ∃ v, r = .returned v ∧ isX (.int .i64 x) v w' ∧ Below w.heap.size w w' := by
  go_enter Try.func16, Try.ntmps16
  go_wp2
  go_ret
  exact ⟨_, rfl, rfl, Below.refl _ _⟩
theorem stays_copy (s : Nat) (l : List Ent) : Stays s (CopyE s l) := fun v w1 w2 ⟨A, cp, e, ho⟩ hk => ⟨A, cp, e, ho.kept hk fun b hb hlt => by have := (ho.lt b hb).1; omega⟩
theorem copy_base {s s' : Nat} {l : List Ent} {v : Value} {w : World} (h : s ≤ s') (hc : CopyE s' l v w) : CopyE s l v w := by
  obtain ⟨A, cp, e, ho⟩ := hc
  exact ⟨A, cp, e, ho.base_le h⟩
/-- The copies that stand already. -/
def CopyAll (s : Nat) (gG : Nat → Value) (q : Nat) (S : LS) (W : World) : Prop := ∀ a, a < q → CopyE s (S.lg a) (gG a) W
theorem CopyAll.below {s : Nat} {gG : Nat → Value} {q : Nat} {S : LS} {W W' : World} (h : CopyAll s gG q S W) (hb : Below W.heap.size W W') : CopyAll s gG q S W' := fun a ha => by
  obtain ⟨A, cp, e, ho⟩ := h a ha
  exact ⟨A, cp, e, ho.below hb fun k hk => (ho.lt k hk).2⟩
theorem CopyAll.set {s : Nat} {gG : Nat → Value} {q : Nat} {S : LS} {W : World} {base : Nat} {ty : TypeId} {sz n cap b : Nat} {F : Nat → Value} (h : CopyAll s gG q S W) (hb : Own W base ty sz (some ⟨b, 0, none⟩) n cap F) (hne : (35 : TypeId) ≠ ty) (o : Nat) (u : Value) : CopyAll s gG q S (W.setCell ⟨b, o, none⟩ u) := fun a ha => by
  obtain ⟨A, cp, e, ho⟩ := h a ha
  refine ⟨A, cp, e, ho.far (fun h2 => ?_) u⟩
  rcases ho.ne_ hb hne with h3 | h3
  · rw [h3] at h2; cases h2
  · exact h3 h2
theorem CopyAll.kept {s : Nat} {gG : Nat → Value} {q : Nat} {S : LS} {W W' : World} {X : Nat → Prop} (h : CopyAll s gG q S W) (hk : Kept X W W') (hX : ∀ b, X b → ∃ base ty sz A n cap F, Own W base ty sz A n cap F ∧ ablock A = some b ∧ (35 : TypeId) ≠ ty) : CopyAll s gG q S W' := fun a ha => by
  obtain ⟨A, cp, e, ho⟩ := h a ha
  refine ⟨A, cp, e, ho.kept hk fun b hb hx => ?_⟩
  obtain ⟨base, ty, sz, A', n, cap, F, h1, h2, h3⟩ := hX b hx
  rcases ho.ne_ h1 h3 with h4 | h4
  · rw [h4] at hb; cases hb
  · exact h4 (by rw [hb, h2])
theorem own_none {w : World} {b sz n cap : Nat} {e : TypeId} {A : Option Addr} {f : Nat → Value} (h : Own w b e sz A n cap f) (hA : A = none) : n = 0 := by
  rcases h with ⟨_, h, _⟩ | ⟨g, _, h, _⟩
  · exact h
  · rw [hA] at h; cases h
theorem lane_fun {F : Nat → Value} {q : Nat} {k : Value} (h : k = F q) : ∀ j, j < (q + 1) * 1 → (if j < q then F j else k) = F j := fun j hj => by
  split
  · rfl
  · rw [show j = q by omega]; exact h
theorem infoOneLg : (Try.prog.info? 50).map (fun i => (i.zero, i.size, i.bytes)) = some (some (.agg #[.slice none 0 0, .int .i64 0, .slice none 0 0, .slice none 0 0]), 4, 80) := by kernel_rfl
def a0L : LA := ⟨fun _ => none, fun _ => 0, fun _ => none, fun _ => 0, fun _ => 0, fun _ => none, fun _ => 0, fun _ => 0⟩
theorem oneL_zero (j : Nat) : lgF a0L LS0 j = (Value.agg #[.slice none 0 0, .int .i64 0, .slice none 0 0, .slice none 0 0]).cells[j % 4]! := by
  rcases (by omega : j % 4 = 0 ∨ j % 4 = 1 ∨ j % 4 = 2 ∨ j % 4 = 3) with h | h | h | h <;> simp only [lgF, h] <;> rfl
theorem famR_nil (m : Nat) : (famR a0L LS0 m).a = none ∧ (famR a0L LS0 m).n = 0 ∧ (famR a0L LS0 m).cap = 0 := by
  unfold famR
  split
  · exact ⟨rfl, rfl, rfl⟩
  split
  · exact ⟨rfl, rfl, rfl⟩
  · exact ⟨rfl, rfl, rfl⟩
theorem el_startG (n : Nat) {g gl : Nat} {R : List LRow} {w0 w : World} (h : Lay w0 w (rowsE g gl n (ESq n) none 0 R)) : Lay w0 w (rowsE g gl n ES0 none 0 R) := by
  refine h.congr 1 (oneF ES0) rfl fun j hj => ?_
  have hj : j < n * 4 := hj
  show oneF (ESq n) j = oneF ES0 j
  unfold oneF
  split
  · rfl
  split
  · rfl
  split
  · show Value.int .i64 (if j / 4 < n then -1 else 0) = _
    rw [if_pos (by omega)]; rfl
  · rfl
/-- The start: all there is, in one. -/
theorem lg_start {gg g gl lo n : Nat} {R : List LRow} {w0 w : World} (h : Lay w0 w (blk gg 47 2 (ofL [.pointer (some ⟨g, 0, none⟩), .slice (some ⟨lo, 0, none⟩) n n]) :: ⟨some ⟨lo, 0, none⟩, 50, 4, n, n, lgF a0L LS0⟩ :: rowsE g gl n (ESq n) none 0 R)) :
    Lay w0 w (rowsG gg g gl lo n LS0 none 0 a0L R) := by
  have h1 : Lay w0 w ([blk gg 47 2 (ofL [.pointer (some ⟨g, 0, none⟩), .slice (some ⟨lo, 0, none⟩) n n]), ⟨some ⟨lo, 0, none⟩, 50, 4, n, n, lgF a0L LS0⟩] ++ ([blk g 57 2 (ofL [.slice (some ⟨gl, 0, none⟩) n n, .slice none 0 0]), oneR gl n (ESq n), ledR none 0 []] ++ R)) := h
  have h2 := el_startG n h1.swapL
  have h3 := h2.nils ((List.range (3 * n)).map (famR a0L LS0)) (fun r hr => by
    obtain ⟨m, _, rfl⟩ := List.mem_map.1 hr
    exact famR_nil m)
  exact Lay.swapL (X := (List.range (3 * n)).map (famR a0L LS0)) (P := [blk g 57 2 (ofL [.slice (some ⟨gl, 0, none⟩) n n, .slice none 0 0]), oneR gl n ES0, ledR none 0 [], blk gg 47 2 (ofL [.pointer (some ⟨g, 0, none⟩), .slice (some ⟨lo, 0, none⟩) n n]), ⟨some ⟨lo, 0, none⟩, 50, 4, n, n, lgF a0L LS0⟩]) (R := R) h3
theorem does_mkN {P : Program} {o : Oper} {a : Act} {w : World} (t : TypeId) (x : Operand) (ho : o.op = .makeSlice t x x) (e : TypeId) (i : TypeInfo) (z : Value) (size bytes : Nat) (ht : P.underlying t = some (.slice e)) (hi : P.info? e = some i) (hz : i.zero = some z) (hs : i.size = size) (hby : i.bytes = bytes)
    {n : Nat} (hx : a.eval x = .int .i64 n) (hn : n ≤ 1000) (hb : bytes ≤ 1000) : (execOp a.eval o).run P w = .ok (.value (.slice (some ⟨w.heap.size, 0, none⟩) n n)) (w.alloc (.cells (madeCells z.cells (n * size)) e)) := by
  have hrun := run_make (P := P) w t e i z ht hi hz .i64 .i64 n n (by omega) (by omega) (by rw [hby, ← Int.natCast_mul]; have := Nat.mul_le_mul hb hn; omega) (by omega)
  subst hs
  simp only [execOp, ho, hx, Sem.run_bind, hrun, Result.andThen_ok, Sem.run_pure, Int.toNat_natCast]
/-- What the region that makes the group yields. -/
def isG (n s : Nat) : Value → Nat → World → Prop := fun v _ w => ∃ g gl u, v = .pointer (some ⟨g, 0, none⟩) ∧ s ≤ u.heap.size ∧ Lay u w (rowsE g gl n (ESq n) none 0 [])
def newG (n s : Nat) (i : Nat) : Value → Nat → World → Prop := match i with
  | 0 => isV (.int .i64 n)
  | 1 => isG n s
  | 2 => isV (.int .i64 n)
  | 3 => isNewV (fun g => .slice (some ⟨g, 0, none⟩) n n) (.cells (madeCells (Value.agg #[.slice none 0 0, .int .i64 0, .slice none 0 0, .slice none 0 0]).cells (n * 4)) 50)
  | _ => fun _ _ _ => False
def newGB (i : Nat) : Bool := i == 3
theorem newG_keep (n s : Nat) (i : Nat) (v : Value) (g : Nat) (w1 w2 : World) (h : newG n s i v g w1) (hb : Below w1.heap.size w1 w2) : newG n s i v g w2 := by
  rcases i with _ | _ | _ | _ | i
  · exact h
  · obtain ⟨g', gl, u, h1, h2, h3⟩ := h
    exact ⟨g', gl, u, h1, h2, h3.keep hb⟩
  · exact h
  · exact isNewV_keep (f := fun g => .slice (some ⟨g, 0, none⟩) n n) (ob := .cells (madeCells (Value.agg #[.slice none 0 0, .int .i64 0, .slice none 0 0, .slice none 0 0]).cells (n * 4)) 50) h hb
  · exact h
end Go.Proofs.Ytfhmabpalimcnaa
