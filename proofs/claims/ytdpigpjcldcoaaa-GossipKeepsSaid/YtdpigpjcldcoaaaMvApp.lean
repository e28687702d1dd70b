/- 'l = append(l, api.Move{..})'. -/
import Derived.Test.YtdpigpjcldcoaaaMv
import Derived.Test.YtdpigpjcldcoaaaOwn
set_option linter.unusedVariables false
set_option linter.unusedSimpArgs false
namespace Go.Proofs.Ytdpigpjcldcoaaa
open Go.RowKit

theorem infoMove : (Try.prog.info? 41).map (fun i => (i.zero, i.size, i.bytes)) = some (some (.agg #[.int .i64 0, .int .i64 0, .int .i64 0, .int .i64 0]), 4, 32) := by kernel_rfl
def Mv.push (M : Mv) (q : Nat) (k f t v : Int) : Mv := ⟨upd M.k q k, upd M.f q f, upd M.t q t, upd M.v q v⟩
theorem mvF_push_old (M : Mv) (q : Nat) (k f t v : Int) {j : Nat} (hj : j < q * 4) : mvF (M.push q k f t v) j = mvF M j := by
  have h : j / 4 ≠ q := by omega
  simp only [recF4, Mv.push, upd_ne _ _ h]
theorem mvF_push_new (M : Mv) (q : Nat) (k f t v : Int) {j : Nat} (hj : j < 4) : mvF (M.push q k f t v) (q * 4 + j) = recF4 (fun _ => k) (fun _ => f) (fun _ => t) (fun _ => v) j := by
  have h : (q * 4 + j) / 4 = q := by omega
  have h2 : (q * 4 + j) % 4 = j % 4 := by omega
  simp only [recF4, Mv.push, h, h2, upd_same]
theorem mv_cells (k f t v : Int) : ∀ j, j < 4 → (#[Value.int .i64 k, .int .i64 f, .int .i64 t, .int .i64 v])[j]? = some (recF4 (fun _ => k) (fun _ => f) (fun _ => t) (fun _ => v) j) := by
  intro j hj
  rcases (by omega : j = 0 ∨ j = 1 ∨ j = 2 ∨ j = 3) with rfl | rfl | rfl | rfl <;> rfl
theorem push_at (M : Mv) (q : Nat) (k f t v : Int) : (M.push q k f t v).k q = k ∧ (M.push q k f t v).f q = f ∧ (M.push q k f t v).t q = t ∧ (M.push q k f t v).v q = v := ⟨upd_same .., upd_same .., upd_same .., upd_same ..⟩
theorem push_other (M : Mv) (q : Nat) (k f t v : Int) {j : Nat} (h : j ≠ q) : (M.push q k f t v).k j = M.k j ∧ (M.push q k f t v).f j = M.f j ∧ (M.push q k f t v).t j = M.t j ∧ (M.push q k f t v).v j = M.v j := ⟨upd_ne _ _ h, upd_ne _ _ h, upd_ne _ _ h, upd_ne _ _ h⟩

theorem wpList_apMv {w : World} {ops : Array Oper} {rest : List Oper} {o : Oper} {a : Act} {Q : Exit → Act → World → Prop} (hgd : o.guard = none) (s x : Operand)
    (ho : o.op = .call { callee := .builtin .append, args := #[s, x], argTypes := #[22, 22] }) (base : Nat)
    {A : Option Addr} {q cap : Nat} {M : Mv} (hs : a.eval s = .slice A q cap) {w0 : World} (g : Nat) (k f t v : Int) (hw : w = w0.alloc (.cells #[.int .i64 k, .int .i64 f, .int .i64 t, .int .i64 v] 41)) (hg : g = w0.heap.size)
    (hown : Own w0 base 41 4 A q cap (mvF M)) (hx : a.eval x = .slice (some ⟨g, 0, none⟩) 1 1) (hq : q ≤ 1000) (hbase : base ≤ w0.heap.size)
    (h : ∀ A' cap' w', Own w' base 41 4 A' (q + 1) cap' (mvF (M.push q k f t v)) → w.grownBy w' (ablock A) → (ablock A' = ablock A ∨ ablock A' = some w.heap.size) → wpList Try.prog ops Q rest (a.put o.dst (.slice A' (q + 1) cap')) w') :
    wpList Try.prog ops Q (o :: rest) a w := by
  subst hw
  obtain ⟨i0, hi0, hz0, hz1, hz2⟩ := info_parts infoMove
  exact wpList_ap hgd s x _ ho 41 i0 _ 4 32 Try.underlying22 hi0 hz0 hz1 hz2 rfl (by omega) base hs (hown.alloc _) hx (m := 1) (g := recF4 (fun _ => k) (fun _ => f) (fun _ => t) (fun _ => v)) (cell_new w0 _ _ _ g hg (mv_cells k f t v))
    (fun j hj => by rcases (by omega : j = 0 ∨ j = 1 ∨ j = 2 ∨ j = 3) with rfl | rfl | rfl | rfl <;> rfl) (mvF (M.push q k f t v)) (fun j hj => mvF_push_old M q k f t v hj) (fun j hj => mvF_push_new M q k f t v (by omega)) (q + 1) rfl (by unfold maxLen; omega) (by omega) (by simp; omega) h

/-- A script behind a script. -/
def Mv.app (M : Mv) (q : Nat) (N : Mv) : Mv :=
  ⟨fun j => if j < q then M.k j else N.k (j - q), fun j => if j < q then M.f j else N.f (j - q), fun j => if j < q then M.t j else N.t (j - q), fun j => if j < q then M.v j else N.v (j - q)⟩
theorem app_old (M : Mv) (q : Nat) (N : Mv) {j : Nat} (h : j < q) : (M.app q N).k j = M.k j ∧ (M.app q N).f j = M.f j ∧ (M.app q N).t j = M.t j ∧ (M.app q N).v j = M.v j := by simp [Mv.app, h]
theorem app_new (M : Mv) (q : Nat) (N : Mv) (j : Nat) : (M.app q N).k (q + j) = N.k j ∧ (M.app q N).f (q + j) = N.f j ∧ (M.app q N).t (q + j) = N.t j ∧ (M.app q N).v (q + j) = N.v j := by
  have h : ¬ q + j < q := by omega
  have h2 : q + j - q = j := by omega
  simp [Mv.app, h, h2]
theorem mvF_app_old (M : Mv) (q : Nat) (N : Mv) {j : Nat} (hj : j < q * 4) : mvF (M.app q N) j = mvF M j := by
  have h : j / 4 < q := by omega
  simp only [recF4, Mv.app, h, if_true]
theorem mvF_app_new (M : Mv) (q : Nat) (N : Mv) (j : Nat) : mvF (M.app q N) (q * 4 + j) = mvF N j := by
  have h : ¬ (q * 4 + j) / 4 < q := by omega
  have h1 : (q * 4 + j) / 4 - q = j / 4 := by omega
  have h2 : (q * 4 + j) % 4 = j % 4 := by omega
  simp only [recF4, Mv.app, h, h1, h2, if_false]
theorem wpList_apMvs {w : World} {ops : Array Oper} {rest : List Oper} {o : Oper} {a : Act} {Q : Exit → Act → World → Prop} (hgd : o.guard = none) (s x : Operand)
    (ho : o.op = .call { callee := .builtin .append, args := #[s, x], argTypes := #[22, 22] }) (base : Nat)
    {A : Option Addr} {q cap : Nat} {M : Mv} (hs : a.eval s = .slice A q cap) (hown : Own w base 41 4 A q cap (mvF M))
    {B : Nat} {X : Option Addr} {m c : Nat} {N : Mv} (hx : a.eval x = .slice X m c) (hr : Rd w B X (m * 4) (mvF N)) (k : Nat) (hk : q + m = k) (h63 : q + m ≤ maxLen) (hbytes : (q + m) * 32 ≤ 140737488355328) (hbase : base ≤ w.heap.size)
    (h : ∀ A' cap' w', Own w' base 41 4 A' k cap' (mvF (M.app q N)) → w.grownBy w' (ablock A) → (ablock A' = ablock A ∨ ablock A' = some w.heap.size) → wpList Try.prog ops Q rest (a.put o.dst (.slice A' k cap')) w') :
    wpList Try.prog ops Q (o :: rest) a w := by
  obtain ⟨i0, hi0, hz0, hz1, hz2⟩ := info_parts infoMove
  exact wpList_ap hgd s x _ ho 41 i0 _ 4 32 Try.underlying22 hi0 hz0 hz1 hz2 rfl (by omega) base hs hown hx hr
    (fun _ _ => rfl) (mvF (M.app q N)) (fun j hj => mvF_app_old M q N hj) (fun j _ => mvF_app_new M q N j) k hk h63 hbytes hbase h
end Go.Proofs.Ytdpigpjcldcoaaa
