/- The walks of slices.IndexFunc and slices.DeleteFunc at fork.round's own predicate. -/
import Derived.Test.YtgfogcaklcnliaaFk2
set_option linter.unusedVariables false
set_option linter.unusedSimpArgs false
namespace Go.Proofs.Ytgfogcaklcnliaa
open Go.RowKit

def outB (g S : Nat) : LRow := blk g 23 1 (ofL [.int .u32 (S : Nat)])
def prd (g : Nat) : Value := .func (.func 26) #[] #[.pointer (some ⟨g, 0, none⟩)]
set_option maxHeartbeats 400000 in
theorem pred_any (a b S g : Nat) (w : World) (hb : b < 32) (hS : S < 4294967296) (hg : g < w.heap.size) (hc : w.cell? ⟨g, 0, none⟩ = some (.int .u32 (S : Nat))) :
    Calls Try.prog 26 #[.agg #[.int .i64 (a : Nat), .int .i64 (b : Nat)], .pointer (some ⟨g, 0, none⟩)] w (Gives fun v w' => v = .bool (S.testBit b) ∧ Below w.heap.size w w') := by
  have HB := Lib.hid (bit_at (i := b) hS)
  have hbit := HB.out
  cases ht : S.testBit b
  all_goals
    rw [ht] at hbit
    clear ht
    go_enter Try.func26, Try.ntmps26
    go_wp2
    go_ret
    exact ⟨_, rfl, by first | rfl | simp [hbit], (Below.refl _ _).alloc (Nat.le_refl _) _⟩

/-- The first whose end is in S: none, or k. -/
def FirstF (l : Lk) (S m : Nat) (k : Int) : Prop := (k = -1 ∧ ∀ j, j < m → S.testBit (f2 l j) = false) ∨ ∃ k' : Nat, k = k' ∧ k' < m ∧ S.testBit (f2 l k') = true ∧ ∀ j, j < k' → S.testBit (f2 l j) = false
set_option maxHeartbeats 1000000 in
theorem indexF_any (l : Lk) (S : Nat) (A : Option Addr) (m cap gv : Nat) (R : List LRow) (w0 w : World) (hm15 : m ≤ 15) (hl : ∀ j, j < m → f1 l j < 32 ∧ f2 l j < 32) (hS : S < 4294967296)
    (hL : Lay w0 w (⟨A, 31, 2, m, cap, lkR l⟩ :: outB gv S :: R)) :
    Calls Try.prog 28 #[.slice A m cap, prd gv] w (Gives fun v w' => ∃ k : Int, v = .int .i64 k ∧ FirstF l S m k ∧ Below w.heap.size w w') := by
  have HL := Lib.hid hL; clear hL
  have HLT := Lib.hid hl; clear hl
  unfold prd
  go_enter Try.func28, Try.ntmps28
  go_wp2
  go_loopw [8] (fun i wr => ∃ k : Nat, k ≤ m ∧ i = .int .i64 k ∧ Hid (Below w.heap.size w wr) ∧ Hid (∀ j, j < k → S.testBit (f2 l j) = false)) (fun i _ => m - (intOf i).toNat)
  case atStart => exact ⟨0, by omega, rfl, Below.refl _ _, fun j hj => absurd hj (by omega)⟩
  case round =>
    obtain ⟨k, hk, rfl, HB2, HA⟩ := hrel
    have hz := HB2.out.size
    by_cases hlt : k < m
    · have hrd : Rd wr w.heap.size A (m * 2) (lkR l) := (HL.out.rd 0 rfl).below HB2.out
      obtain ⟨ad, rfl, hbl, c0, c1⟩ := Rd.rec2 hrd hlt
      clear hrd
      have HLW := Lib.hid (HL.out.keep HB2.out)
      have hcv := HLW.out.cellB 1 rfl 0 (by omega)
      have hcg := (HLW.out.at_ 1 rfl).2
      have h32 := HLT.out k hlt
      have HPR := Lib.hid (pred_any (f1 l k) (f2 l k) S gv wr h32.2 hS hcg hcv)
      clear hcv
      cases hb : S.testBit (f2 l k)
      all_goals
        rw [hb] at HPR
        have HB := Lib.hid hb
        clear hb
        go_wp2_with fail
        refine HPR.out.mono ?_
        rintro e w2 ⟨v, rfl, rfl, hb3⟩
        have HB3 := Lib.hid (HB2.out.trans (hb3.mono hz))
        clear hb3
        go_wp2
      · go_roundw
        case rel => exact ⟨k + 1, by omega, by go_num, HB3, fun j hj => (Nat.lt_succ_iff_lt_or_eq.1 hj).elim (HA.out j) (fun e => by subst e; exact HB.out)⟩
        case measure => simp [intOf]; omega
      · go_ret
        exact ⟨_, rfl, _, rfl, .inr ⟨k, rfl, hlt, HB.out, HA.out⟩, HB3.out⟩
    · obtain rfl : k = m := by omega
      go_wp2
      go_ret
      exact ⟨_, rfl, _, rfl, .inl ⟨rfl, HA.out⟩, HB2.out⟩

/-! clear. -/
theorem zeroPair (w : World) : (zeroValue 31).run Try.prog w = .ok (.agg #[.int .i64 0, .int .i64 0]) w := by kernel_rfl
theorem clear_run {w : World} {base g m cap i : Nat} {F : Nat → Value} {ty : TypeId} (h : Own w base 31 2 (some ⟨g, 0, none⟩) m cap F) (hi : i < m) (c : Nat) :
    ∃ w', (Builtin.clear_ #[22] ty #[.slice (some ⟨g, i * 2, none⟩) (m - i) c]).run Try.prog w = .ok (.tuple #[]) w' ∧ Own w' base 31 2 (some ⟨g, 0, none⟩) m cap (fun j => if j < i * 2 then F j else .int .i64 0) ∧ w.grownBy w' (some g) := by
  rcases h with ⟨h1, _⟩ | ⟨g', cur, h1, h2, h3, h4, h5, h6, h7⟩
  · cases h1
  · injection h1 with h1
    injection h1 with h1
    subst h1
    obtain ⟨d, hd⟩ : ∃ d, m - i = d + 1 := ⟨m - i - 1, by omega⟩
    have hz : (Builtin.zeroCells (Value.agg #[.int .i64 0, .int .i64 0]).cells (m - i)).toList = List.replicate ((m - i) * 2) (.int .i64 0) := by
      have hc : (fun j : Nat => (#[Value.int .i64 0, Value.int .i64 0] : Array Value)[j % 2]!) = fun _ => Value.int .i64 0 := by
        funext j
        rcases (by omega : j % 2 = 0 ∨ j % 2 = 1) with h | h <;> rw [h] <;> rfl
      show ((Array.range ((m - i) * 2)).map fun j : Nat => (#[Value.int .i64 0, Value.int .i64 0] : Array Value)[j % 2]!).toList = _
      rw [hc]
      simp only [Array.toList_map, Array.toList_range]
      rw [List.map_const', List.length_range]
    have hst := run_storeCells_at Try.prog g (i * 2) 31 (List.replicate ((m - i) * 2) (.int .i64 0)) 0 cur w h3 (by simp; omega) (by intro v hv; rw [List.eq_of_mem_replicate hv]; rfl)
    simp only [Nat.add_zero, List.length_replicate] at hst
    refine ⟨w.setRow g (cur.toList.take (i * 2) ++ List.replicate ((m - i) * 2) (Value.int .i64 0) ++ cur.toList.drop (i * 2 + (m - i) * 2)).toArray, ?_, .inr ⟨g, _, rfl, h2, setRow_heap w g cur _ _ _ h3, h4, h5, ?_, fun j hj => ?_⟩, ⟨rfl, rfl, rfl, by simp, fun k _ hk => setRow_other w g k _ (fun e => hk (by rw [e]))⟩⟩
    · rw [hd] at hst hz ⊢
      simp [Builtin.clear_, run_underlying Try.underlying22, zeroPair, hz, hst]
    · simp
      omega
    · have hcl : cur.toList.length = cap * 2 := by rw [Array.length_toList, h6]
      have hl : (cur.toList.take (i * 2)).length = i * 2 := by rw [List.length_take]; omega
      show (List.toArray _)[j]? = _
      rw [List.getElem?_toArray]
      dsimp only
      by_cases hji : j < i * 2
      · rw [if_pos hji, List.append_assoc, List.getElem?_append_left (by omega), List.getElem?_take_of_lt hji, Array.getElem?_toList]
        exact h7 j hj
      · rw [if_neg hji, List.getElem?_append_left (by rw [List.length_append, hl, List.length_replicate]; omega), List.getElem?_append_right (by omega), hl, List.getElem?_replicate, if_pos (by omega)]
theorem wpList_clr {w : World} {ops : Array Oper} {rest : List Oper} {o : Oper} {a : Act} {Q : Exit → Act → World → Prop} (hgd : o.guard = none) (s : Operand)
    (ho : o.op = .call { callee := .builtin .clear, args := #[s], argTypes := #[22] }) {base g m cap i c : Nat} {F : Nat → Value} (hs : a.eval s = .slice (some ⟨g, i * 2, none⟩) (m - i) c)
    (hown : Own w base 31 2 (some ⟨g, 0, none⟩) m cap F) (hi : i < m)
    (h : ∀ w', Own w' base 31 2 (some ⟨g, 0, none⟩) m cap (fun j => if j < i * 2 then F j else .int .i64 0) → w.grownBy w' (some g) → wpList Try.prog ops Q rest (a.put o.dst (.tuple #[])) w') :
    wpList Try.prog ops Q (o :: rest) a w := by
  refine wpList_plain hgd fun K hK => ?_
  obtain ⟨w', hrun, h2, h3⟩ := clear_run (ty := o.type) hown hi c
  unfold Oper.wp execOp
  simp only [ho, resolve, invoke, builtin, Sem.run_bind, Sem.run_pure, Result.andThen_ok, List.map_toArray, List.map_cons, List.map_nil, hs, hrun]
  exact hK _ _ (h w' h2 h3)

/-! slices.DeleteFunc. -/
theorem take_keep (l : Lk) (S : Nat) {j : Nat} (hj : j < l.length) : keepL (l.take (j + 1)) S = keepL (l.take j) S ++ if S.testBit (f2 l j) then [] else [(f1 l j, f2 l j)] := by
  have ht : l.take (j + 1) = l.take j ++ [(f1 l j, f2 l j)] := by
    rw [List.take_add_one, f_at hj]
    rfl
  rw [ht, keepL, List.filter_append]
  unfold keepL
  congr 1
  cases hb : S.testBit (f2 l j) <;> simp [hb]
theorem take_all (l : Lk) (S k : Nat) (hk : k ≤ l.length) (h : ∀ j, j < k → S.testBit (f2 l j) = false) : keepL (l.take k) S = l.take k := by
  unfold keepL
  rw [List.filter_eq_self]
  intro x hx
  obtain ⟨j, hj⟩ := List.getElem?_of_mem hx
  have hjk : j < k := by
    have := (List.getElem?_eq_some_iff.1 hj).1
    rw [List.length_take] at this
    omega
  rw [List.getElem?_take_of_lt hjk, f_at (by omega)] at hj
  injection hj with hj
  rw [← hj]
  simp [h j hjk]
/-- What the walk of DeleteFunc holds: the first i are kept, from j on all is as it was. -/
structure DelI (l : Lk) (S m i j : Nat) (L : Lk) : Prop where
  len : L.length = m
  tk : L.take i = keepL (l.take j) S
  dr : ∀ x, j ≤ x → x < m → f1 L x = f1 l x ∧ f2 L x = f2 l x
  lt : i < j
  le : j ≤ m
theorem del_start {l : Lk} {S m k : Nat} (hm : m = l.length) (hk : k < m) (hb : S.testBit (f2 l k) = true) (h : ∀ j, j < k → S.testBit (f2 l j) = false) : DelI l S m k (k + 1) l := by
  refine ⟨hm.symm, ?_, fun x _ _ => ⟨rfl, rfl⟩, by omega, by omega⟩
  rw [take_keep l S (by omega), take_all l S k (by omega) h, if_pos hb, List.append_nil]
theorem del_skip {l L : Lk} {S m i j : Nat} (hm : m = l.length) (h : DelI l S m i j L) (hj : j < m) (hb : S.testBit (f2 l j) = true) : DelI l S m i (j + 1) L := by
  refine ⟨h.len, ?_, fun x hx => h.dr x (by omega), by have := h.lt; omega, by omega⟩
  rw [take_keep l S (by omega), if_pos hb, List.append_nil, h.tk]
theorem del_keep {l L : Lk} {S m i j : Nat} (hm : m = l.length) (h : DelI l S m i j L) (hj : j < m) (hb : S.testBit (f2 l j) = false) : DelI l S m (i + 1) (j + 1) (L.set i (f1 l j, f2 l j)) := by
  have hij := h.lt
  have hil : i < L.length := by rw [h.len]; omega
  refine ⟨by rw [List.length_set, h.len], ?_, fun x hx hxm => ?_, by omega, by omega⟩
  · rw [take_keep l S (by omega), hb, ← h.tk, List.take_add_one, List.getElem?_set, if_pos rfl, if_pos hil, List.take_set_of_le (Nat.le_refl _)]
    rfl
  · have := f_set L i (f1 l j, f2 l j) hil x
    rw [this.1, this.2, if_neg (by omega), if_neg (by omega)]
    exact h.dr x (by omega) hxm
theorem del_end {l L : Lk} {S m i : Nat} (hm : m = l.length) (h : DelI l S m i m L) : i = (keepL l S).length ∧ ∀ j, j < i * 2 → lkR L j = lkR (keepL l S) j := by
  have ht := h.tk
  rw [hm, List.take_length] at ht
  have hi : i = (keepL l S).length := by
    rw [← ht, List.length_take, h.len]
    have := h.lt
    omega
  refine ⟨hi, fun j hj => ?_⟩
  have hg : L[j / 2]? = (keepL l S)[j / 2]? := by
    rw [← ht, List.getElem?_take_of_lt (by omega)]
  unfold lkR recF2 f1 f2
  dsimp only
  rw [hg]
set_option maxHeartbeats 2000000 in
theorem delF_any (l : Lk) (S : Nat) (A : Option Addr) (m cap gv : Nat) (R : List LRow) (w0 w : World) (hm : m = l.length) (hm15 : m ≤ 15) (hl : ∀ j, j < m → f1 l j < 32 ∧ f2 l j < 32) (hS : S < 4294967296)
    (hL : Lay w0 w (⟨A, 31, 2, m, cap, lkR l⟩ :: outB gv S :: R)) :
    Calls Try.prog 25 #[.slice A m cap, prd gv] w (Gives fun v w' => ∃ (i : Nat) (F : Nat → Value), v = .slice A i cap ∧ i = (keepL l S).length ∧ i ≤ m ∧ Lay w0 w' (⟨A, 31, 2, m, cap, F⟩ :: outB gv S :: R) ∧ ∀ j, j < i * 2 → F j = lkR (keepL l S) j) := by
  have HL := Lib.hid hL; clear hL
  have HLT := Lib.hid hl
  have HM := Lib.hid hm
  have HIX := Lib.hid fun (k : Nat) => indexF_any l S A m cap gv R w0 w hm15 hl hS HL.out
  clear hl hm
  unfold prd at HIX ⊢
  go_enter Try.func25, Try.ntmps25
  go_wp2_with fail
  refine (HIX.out 0).mono ?_
  rintro e w1 ⟨v, rfl, k, rfl, hk, hb1⟩
  have HL1 := Lib.hid (HL.out.keep hb1)
  clear hb1 HIX HL
  rcases hk with ⟨rfl, hall⟩ | ⟨k, rfl, hkm, hkb, hkn⟩
  · have HALL := Lib.hid hall
    clear hall
    go_wp2
    go_ret
    have e : keepL l S = l := by
      have := take_all l S m (by rw [← HM.out]; exact Nat.le_refl _) HALL.out
      rwa [HM.out, List.take_length] at this
    exact ⟨_, rfl, m, _, rfl, by rw [e]; exact HM.out, Nat.le_refl _, HL1.out, fun j _ => by rw [e]⟩
  · have HD := Lib.hid (del_start HM.out hkm hkb hkn)
    clear hkb hkn
    obtain ⟨ga, rfl, -⟩ := (HL1.out.own 0 _ rfl).pos (by show 0 < m; omega)
    have hmc := (HL1.out.own 0 _ rfl).le
    obtain ⟨hmc, hcm⟩ := hmc
    have hk1 : ((k : Int) == -1) = false := by rw [beq_eq_false_iff_ne]; omega
    unfold maxLen at hcm
    go_wp2
    go_loopw [5, 6] (fun i j wr => ∃ (i' j' : Nat) (L : Lk), i = .int .i64 (i' : Nat) ∧ j = .int .i64 (j' : Nat) ∧ Hid (DelI l S m i' j' L) ∧ Hid (Lay w0 wr (⟨some ⟨ga, 0, none⟩, 31, 2, m, cap, lkR L⟩ :: outB gv S :: R))) (fun _ j _ => m - (intOf j).toNat)
    case atStart => exact ⟨k, k + 1, l, rfl, by go_num, HD, HL1⟩
    case round =>
      clear HD HL1
      obtain ⟨i, j, L, rfl, rfl, HD, HL⟩ := hrel
      have hij := HD.out.lt
      have hjm := HD.out.le
      have hz := HL.out.size
      by_cases hlt : j < m
      · have hcell : wr.cell? ⟨ga, j * 2, none⟩ = some (.int .i64 (f1 l j : Nat)) ∧ wr.cell? ⟨ga, j * 2 + 1, none⟩ = some (.int .i64 (f2 l j : Nat)) := by
          have h0 := HL.out.cell 0 rfl (j := j * 2) (by omega)
          have h1 := HL.out.cell 0 rfl (j := j * 2 + 1) (by omega)
          obtain ⟨e1, e2⟩ := HD.out.dr j (Nat.le_refl _) hlt
          unfold lkR at h0 h1
          rw [recF2_0, e1] at h0
          rw [recF2_1, e2] at h1
          exact ⟨h0, h1⟩
        obtain ⟨c0, c1⟩ := hcell
        have hga := (HL.out.at_ 0 rfl).2
        have h32 := HLT.out j hlt
        have HPR := Lib.hid (pred_any (f1 l j) (f2 l j) S gv (wr.alloc (.cells #[.int .i64 (f1 l j : Nat), .int .i64 (f2 l j : Nat)] 31)) h32.2 hS (((HL.out.alloc _).at_ 1 rfl).2) ((HL.out.alloc _).cellB 1 rfl 0 (by omega)))
        have HL2 := Lib.hid (HL.out.alloc (.cells #[.int .i64 (f1 l j : Nat), .int .i64 (f2 l j : Nat)] 31))
        have HA2 := Lib.hid (alloc2 wr (.int .i64 (f1 l j : Nat)) (.int .i64 (f2 l j : Nat)) 31)
        cases hb : S.testBit (f2 l j)
        · have HB := Lib.hid hb
          rw [hb] at HPR
          clear hb
          go_wp2_with fail
          refine HPR.out.mono ?_
          rintro e w2 ⟨v, rfl, rfl, hb3⟩
          have HL3 := Lib.hid (HL2.out.keep hb3)
          have d0 : w2.cell? ⟨wr.heap.size, 0, none⟩ = some (.int .i64 (f1 l j : Nat)) := (hb3.cell (by simp)).trans HA2.out.1
          have d1 : w2.cell? ⟨wr.heap.size, 1, none⟩ = some (.int .i64 (f2 l j : Nat)) := (hb3.cell (by simp)).trans HA2.out.2
          obtain ⟨e0, e1⟩ : w2.cell? ⟨ga, i * 2, none⟩ = some (.int .i64 (f1 L i : Nat)) ∧ w2.cell? ⟨ga, i * 2 + 1, none⟩ = some (.int .i64 (f2 L i : Nat)) := by
            rw [HL3.out.cell 0 rfl (j := i * 2) (by omega), HL3.out.cell 0 rfl (j := i * 2 + 1) (by omega), lkR, recF2_0, recF2_1]
            exact ⟨rfl, rfl⟩
          have hfz := HL3.out.frz 0 rfl (by omega)
          have hga2 := (HL3.out.at_ 0 rfl).2
          clear hb3 HL HPR HL2 HA2
          go_wp2
          go_roundw
          case rel =>
            obtain ⟨s0, s1, s2⟩ := lkR_set L i (f1 l j, f2 l j) (by rw [HD.out.len]; omega)
            have h := HL3.out.set 0 (fun x => if x = i * 2 then .int .i64 (f1 l j : Nat) else lkR L x) (j := i * 2) (u := .int .i64 (f1 l j : Nat)) rfl (by omega) (if_pos rfl) (fun x _ hx => if_neg hx)
            have h2 := h.set 0 (lkR (L.set i (f1 l j, f2 l j))) (j := i * 2 + 1) (u := .int .i64 (f2 l j : Nat)) rfl (by omega) s1 (fun x _ hx => by
              by_cases h0 : x = i * 2
              · subst h0; rw [if_pos rfl]; exact s0
              · rw [if_neg h0]; exact s2 x h0 hx)
            exact ⟨i + 1, j + 1, L.set i (f1 l j, f2 l j), by go_num, by go_num, Lib.hid (del_keep HM.out HD.out hlt HB.out), Lib.hid h2⟩
          case measure => simp [intOf]; omega
        · have HB := Lib.hid hb
          rw [hb] at HPR
          clear hb
          go_wp2_with fail
          refine HPR.out.mono ?_
          rintro e w2 ⟨v, rfl, rfl, hb3⟩
          have HL3 := Lib.hid (HL2.out.keep hb3)
          clear hb3 HL HPR HL2 HA2
          go_wp2
          go_roundw
          case rel => exact ⟨i, j + 1, L, rfl, by go_num, Lib.hid (del_skip HM.out HD.out hlt HB.out), HL3⟩
          case measure => simp [intOf]; omega
      · obtain rfl : j = m := by omega
        obtain ⟨w3, hrun, ho3, hg3⟩ := clear_run (ty := 0) (HL.out.own 0 _ rfl) hij (cap - i)
        have HL3 := Lib.hid (HL.out.app 0 rfl ho3 hg3 (.inl rfl))
        have HE := Lib.hid (del_end HM.out HD.out)
        clear ho3 hg3 HL HD
        go_wp2
        go_ret
        exact ⟨_, rfl, i, rfl, HE.out.1, by omega, _, HL3.out, fun x hx => by rw [if_pos hx]; exact HE.out.2 x hx⟩
end Go.Proofs.Ytgfogcaklcnliaa
