/- What the walk of logs' 'send' asks: cells that are set, an append to a clipped slice. -/
import Derived.Test.YtfhmabpalimcnaaLg4
import Derived.ArgAppend
set_option linter.unusedVariables false
set_option linter.unusedSimpArgs false
namespace Go.Proofs.Ytfhmabpalimcnaa
open Go.RowKit

def vle (l : List Ent) (k : Nat) : Int := ((l[k]?).getD (0, 0)).2
theorem ent_some {l : List Ent} {k : Nat} (h : k < l.length) : l[k]? = some (trm l k, vle l k) := by unfold trm vle; rw [List.getElem?_eq_getElem h]; rfl
theorem same_ent {a b : List Ent} {k : Nat} (h : k < a.length) (h' : k < b.length) : a[k]? = b[k]? ↔ trm a k = trm b k ∧ vle a k = vle b k := by
  rw [ent_some h, ent_some h']; simp
section
variable {gg g gl lo n : Nat} {s : LS} {A : Option Addr} {cap : Nat} {a : LA} {R : List LRow} {w0 w : World}
theorem lg_hn {i : Nat} (h : Lay w0 w (rowsG gg g gl lo n s A cap a R)) (hi : i < n) (hn : a.hn i = n) (hn' : a.nn i = n) : ∃ bh bn, a.hA i = some ⟨bh, 0, none⟩ ∧ a.nA i = some ⟨bn, 0, none⟩ ∧ bh < w.heap.size ∧ bn < w.heap.size ∧ ∀ j, j < n → w.cell? ⟨bh, j, none⟩ = some (.int .i64 (s.ha i j : Nat)) ∧ w.frozen? ⟨bh, j, none⟩ = false ∧ w.cell? ⟨bn, j, none⟩ = some (.int .i64 (s.nx i j : Nat)) ∧ w.frozen? ⟨bn, j, none⟩ = false := by
  obtain ⟨_, o1, o2⟩ := lg_own h hi
  rw [hn] at o1
  rw [hn'] at o2
  obtain ⟨bh, e1, _, l1, c1, f1⟩ := o1.pos1 (by omega)
  obtain ⟨bn, e2, _, l2, c2, f2⟩ := o2.pos1 (by omega)
  exact ⟨bh, bn, e1, e2, l1, l2, fun j hj => ⟨c1 j hj, f1 j, c2 j hj, f2 j⟩⟩
def nxS (i t x : Nat) (s : LS) : LS := { s with nx := upd s.nx i (upd (s.nx i) t x) }
def haS (i t x : Nat) (s : LS) : LS := { s with ha := upd s.ha i (upd (s.ha i) t x) }
def suS (i x : Nat) (s : LS) : LS := { s with su := upd s.su i x }
def lgS (i : Nat) (l : List Ent) (s : LS) : LS := { s with lg := upd s.lg i l }
theorem lg_nxset {i t b x : Nat} (h : Lay w0 w (rowsG gg g gl lo n s A cap a R)) (hi : i < n) (ht : t < n) (hb : a.nA i = some ⟨b, 0, none⟩) (hn : a.nn i = n) : Lay w0 (w.setCell ⟨b, t, none⟩ (.int .i64 (x : Nat))) (rowsG gg g gl lo n (nxS i t x s) A cap a R) := by
  have h0 := lg_get (gg := gg) (g := g) (gl := gl) (lo := lo) (e := s.e) (A := A) (cap := cap) (F := lgF a s) (fr := famR a s) (R := R) (n := n) (m := i * 3 + 2) (by omega)
  rw [famR_2] at h0
  have h1 := h.upd (5 + (i * 3 + 2)) (g := b) (ty := 3) (n := n) (cap := a.nc i) (mk := fun x : Nat => .int .i64 (x : Nat)) (s := s.nx i) (j := t) x (by rw [h0]; show some (LRow.mk (a.nA i) _ _ (a.nn i) _ _) = _; rw [hb, hn]) ht
  have h2 : rowsG gg g gl lo n (nxS i t x s) A cap a R = (rowsG gg g gl lo n s A cap a R).set (5 + (i * 3 + 2)) ⟨some ⟨b, 0, none⟩, 3, 1, n, a.nc i, fun j => .int .i64 (upd (s.nx i) t x j : Nat)⟩ := by
    refine (lg_setr (n := n) (m := i * 3 + 2) (by omega) (fr' := famR a (nxS i t x s)) ?_ (fam_upd (a := a) (s := s) (i := i) (c := 2) (by omega) (fun j => same_or _) (fun j => same_or _) fun j => ?_)).symm
    · rw [famR_2]
      show LRow.mk (a.nA i) _ _ (a.nn i) _ (fun j => .int .i64 (upd s.nx i _ i j : Nat)) = _
      rw [hb, hn, upd_same]
    · by_cases e : j = i
      · exact .inr ⟨rfl, e⟩
      · left
        show LRow.mk _ _ _ _ _ (fun k => .int .i64 (upd s.nx i _ j k : Nat)) = _
        rw [upd_ne _ _ e]
  rw [h2]; exact h1
theorem lg_haset {i t b x : Nat} (h : Lay w0 w (rowsG gg g gl lo n s A cap a R)) (hi : i < n) (ht : t < n) (hb : a.hA i = some ⟨b, 0, none⟩) (hn : a.hn i = n) : Lay w0 (w.setCell ⟨b, t, none⟩ (.int .i64 (x : Nat))) (rowsG gg g gl lo n (haS i t x s) A cap a R) := by
  have h0 := lg_get (gg := gg) (g := g) (gl := gl) (lo := lo) (e := s.e) (A := A) (cap := cap) (F := lgF a s) (fr := famR a s) (R := R) (n := n) (m := i * 3 + 1) (by omega)
  rw [famR_1] at h0
  have h1 := h.upd (5 + (i * 3 + 1)) (g := b) (ty := 3) (n := n) (cap := a.hc i) (mk := fun x : Nat => .int .i64 (x : Nat)) (s := s.ha i) (j := t) x (by rw [h0]; show some (LRow.mk (a.hA i) _ _ (a.hn i) _ _) = _; rw [hb, hn]) ht
  have h2 : rowsG gg g gl lo n (haS i t x s) A cap a R = (rowsG gg g gl lo n s A cap a R).set (5 + (i * 3 + 1)) ⟨some ⟨b, 0, none⟩, 3, 1, n, a.hc i, fun j => .int .i64 (upd (s.ha i) t x j : Nat)⟩ := by
    refine (lg_setr (n := n) (m := i * 3 + 1) (by omega) (fr' := famR a (haS i t x s)) ?_ (fam_upd (a := a) (s := s) (i := i) (c := 1) (by omega) (fun j => same_or _) (fun j => ?_) (fun j => same_or _))).symm
    · rw [famR_1]
      show LRow.mk (a.hA i) _ _ (a.hn i) _ (fun j => .int .i64 (upd s.ha i _ i j : Nat)) = _
      rw [hb, hn, upd_same]
    · by_cases e : j = i
      · exact .inr ⟨rfl, e⟩
      · left
        show LRow.mk _ _ _ _ _ (fun k => .int .i64 (upd s.ha i _ j k : Nat)) = _
        rw [upd_ne _ _ e]
  rw [h2]; exact h1
theorem lg_suset {i x : Nat} (h : Lay w0 w (rowsG gg g gl lo n s A cap a R)) (hi : i < n) : Lay w0 (w.setCell ⟨lo, i * 4 + 1, none⟩ (.int .i64 (x : Nat))) (rowsG gg g gl lo n (suS i x s) A cap a R) := by
  refine lg_setF (c := 1) (by omega) h hi (by rw [lgF_1]; show Value.int .i64 (upd s.su i x i : Nat) = _; rw [upd_same]) (lgF_upd (fun j => same3_or ..) (fun j => ?_) (fun j => same3_or ..) (fun j => same3_or ..))
  by_cases e : j = i
  · exact .inr ⟨rfl, e⟩
  · exact .inl (upd_ne _ _ e)
def lgA (i : Nat) (A' : Option Addr) (c' : Nat) (a : LA) : LA := { a with A := upd a.A i A', c := upd a.c i c' }
theorem lgA_ok {i : Nat} {A' : Option Addr} {c' : Nat} {l : List Ent} (h : LdOk n a s) : LdOk n (lgA i A' c' a) (lgS i l s) := h
/-- A log has been replaced: its row first, then its head. -/
theorem lg_row {i c' : Nat} {A' : Option Addr} {l : List Ent} {w' : World} (h : Lay w0 w (rowsG gg g gl lo n s A cap a R)) (hi : i < n) (ho : Own w' w0.heap.size 35 2 A' l.length c' (entF l)) (hg : w.grownBy w' (ablock (a.A i))) (ha : ablock A' = ablock (a.A i) ∨ ablock A' = some w.heap.size) :
    Lay w0 w' (rowsF gg g gl lo n s.e A cap (lgF a s) (famR (lgA i A' c' a) (lgS i l s)) R) := by
  have h0 := lg_get (gg := gg) (g := g) (gl := gl) (lo := lo) (e := s.e) (A := A) (cap := cap) (F := lgF a s) (fr := famR a s) (R := R) (n := n) (m := i * 3) (by omega)
  rw [famR_0] at h0
  have h1 := h.app (5 + i * 3) h0 ho hg ha
  have h2 : rowsF gg g gl lo n s.e A cap (lgF a s) (famR (lgA i A' c' a) (lgS i l s)) R = (rowsG gg g gl lo n s A cap a R).set (5 + i * 3) ⟨A', 35, 2, l.length, c', entF l⟩ := by
    refine (lg_setr (n := n) (m := i * 3) (by omega) (fr' := famR (lgA i A' c' a) (lgS i l s)) ?_ (fam_upd (a := a) (s := s) (i := i) (c := 0) (by omega) (fun j => ?_) (fun j => same_or _) (fun j => same_or _))).symm
    · rw [famR_0]
      show LRow.mk (upd a.A i A' i) _ _ (upd s.lg i l i).length (upd a.c i c' i) (entF (upd s.lg i l i)) = _
      rw [upd_same, upd_same, upd_same]
    · by_cases e : j = i
      · exact .inr ⟨rfl, e⟩
      · left
        show LRow.mk (upd a.A i A' j) _ _ (upd s.lg i l j).length (upd a.c i c' j) (entF (upd s.lg i l j)) = _
        rw [upd_ne _ _ e, upd_ne _ _ e, upd_ne _ _ e]
  rw [h2]; exact h1
theorem lg_head {i c' : Nat} {A' : Option Addr} {l : List Ent} (h : Lay w0 w (rowsF gg g gl lo n s.e A cap (lgF a s) (famR (lgA i A' c' a) (lgS i l s)) R)) (hi : i < n) :
    Lay w0 (w.setCell ⟨lo, i * 4, none⟩ (.slice A' l.length c')) (rowsG gg g gl lo n (lgS i l s) A cap (lgA i A' c' a) R) := by
  refine lg_setF (c := 0) (by omega) h hi (by rw [Nat.add_zero, lgF_0]; show Value.slice (upd a.A i A' i) (upd s.lg i l i).length (upd a.c i c' i) = _; rw [upd_same, upd_same, upd_same]) (lgF_upd (fun j => ?_) (fun j => same_or _) (fun j => same3_or ..) (fun j => same3_or ..))
  by_cases e : j = i
  · exact .inr ⟨rfl, e⟩
  · left
    show upd a.A i A' j = _ ∧ (upd s.lg i l j).length = _ ∧ upd a.c i c' j = _
    rw [upd_ne _ _ e, upd_ne _ _ e, upd_ne _ _ e]
    exact ⟨rfl, rfl, rfl⟩
end
theorem grown_any {w w' : World} (h : w.grownBy w' none) (r : Option Nat) : w.grownBy w' r := ⟨h.1, h.2, h.3, h.4, fun k hk _ => h.5 k hk (by simp)⟩
/-- 'append(s[:k:k], x...)': a new block, whatever s lies in. -/
theorem wpList_apC {P : Program} {w : World} {ops : Array Oper} {rest : List Oper} {o : Oper} {a : Act} {Q : Exit → Act → World → Prop} (hgd : o.guard = none) (s x : Operand) (t : TypeId)
    (ho : o.op = .call { callee := .builtin .append, args := #[s, x], argTypes := #[t, t] })
    (e : TypeId) (i : TypeInfo) (z : Value) (size bytes : Nat) (ht : P.underlying t = some (.slice e)) (hi : P.info? e = some i) (hz : i.zero = some z)
    (hsize : i.size = size) (hby : i.bytes = bytes) (hzs : z.cells.size = size) (hsz : 0 < size) (base : Nat)
    {A : Option Addr} {n : Nat} {f : Nat → Value} (hs : a.eval s = .slice A n n) (hn : A = none → n = 0) (hf : ∀ ad, A = some ad → ∀ j, j < n * size → w.cell? (ad.add j) = some (f j))
    {ad : Addr} {m c : Nat} {g : Nat → Value} (hx : a.eval x = .slice (some ad) m c) (hr : ∀ j, j < m * size → w.cell? (ad.add j) = some (g j)) (hb : ad.block < w.heap.size) (hm : 0 < m) (h1 : ∀ j, j < m * size → (g j).oneCell' = true)
    (f' : Nat → Value) (hf1 : ∀ j, j < n * size → f' j = f j) (hf2 : ∀ j, j < m * size → f' (n * size + j) = g j)
    (k : Nat) (hk : n + m = k) (h63 : n + m ≤ maxLen) (hbytes : (n + m) * bytes ≤ 140737488355328) (hbase : base ≤ w.heap.size)
    (h : ∀ A' cap' w', Own w' base e size A' k cap' f' → w.grownBy w' none → ablock A' = some w.heap.size → wpList P ops Q rest (a.put o.dst (.slice A' k cap')) w') :
    wpList P ops Q (o :: rest) a w := by
  rcases A with _ | b
  · obtain rfl := hn rfl
    refine wpList_ap hgd s x t ho e i z size bytes ht hi hz hsize hby hzs hsz base hs (Own.nil_ w base e size f) hx (B := w.heap.size) (g := g) (fun _ => ⟨ad, rfl, hb, hr⟩) h1 f' hf1 hf2 k hk h63 hbytes hbase ?_
    intro A' cap' w' h1 h2 h3
    refine h A' cap' w' h1 h2 (h3.resolve_left fun e => ?_)
    obtain ⟨g', e2, _⟩ := h1.pos (by omega)
    rw [e2] at e; cases e
  · subst hk
    refine wpList_plain hgd fun K hK => ?_
    subst hsize
    subst hby
    have hmap : ∀ (q : Nat) (f : Nat → Value) (p : Addr), (∀ j, j < q → w.cell? (p.add j) = some (f j)) → ∀ j v, ((List.range q).map f)[j]? = some v → w.cell? (p.add j) = some v := by
      intro q f p hp j v hv
      rcases Nat.lt_or_ge j q with hj | hj
      · rw [List.getElem?_map, List.getElem?_range hj] at hv
        rw [hp j hj]; exact hv
      · rw [List.getElem?_eq_none (by simpa using hj)] at hv; cases hv
    obtain ⟨v', w', hrun, h2, h3⟩ := run_append_arg_grows (P := P) w t o.type e i z i.size i.bytes ht hi hz rfl rfl hzs hsz b n n ((List.range (n * i.size)).map f) (by simp) (hmap _ f b (hf b rfl)) ad m c ((List.range (m * i.size)).map g) (by simp) (hmap _ g ad hr) (by omega) h63 hbytes
    have hrun2 := run_append_grow (P := P) w t o.type e i z ht hi hz b n n ((List.range (n * i.size)).map f) (by simp) (hmap _ f b (hf b rfl)) ad m c ((List.range (m * i.size)).map g) (by simp) (hmap _ g ad hr) (by omega) (by unfold maxLen at h63; omega) (growslice_fits (by omega) hbytes)
    rw [hrun] at hrun2
    injection hrun2 with e1 e2
    have hjoin : ((List.range (n * i.size)).map f ++ (List.range (m * i.size)).map g) = (List.range ((n + m) * i.size)).map f' := by
      rw [Nat.add_mul, List.range_add, List.map_append, List.map_map]
      congr 1
      · exact List.map_congr_left fun j hj => (hf1 j (List.mem_range.1 hj)).symm
      · exact List.map_congr_left fun j hj => (hf2 j (List.mem_range.1 hj)).symm
    rw [hjoin] at h2
    obtain ⟨A', cap', rfl, h6⟩ := Own.ofRow h2
    unfold Oper.wp execOp
    simp only [ho, resolve, invoke, builtin, Sem.run_bind, Sem.run_pure, Result.andThen_ok, List.map_toArray, List.map_cons, List.map_nil, hs, hx, hrun]
    refine hK _ _ (h A' cap' w' (h6.base_le hbase) h3 ?_)
    injection e1 with e3 _ _
    rw [e3]; rfl
end Go.Proofs.Ytfhmabpalimcnaa
