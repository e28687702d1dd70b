/- Rows of a layout that grow by one element each in one statement, whatever order is picked. -/
import Derived.Test.YtoakgoigamigjaaLan
import Derived.Test.YtoakgoigamigjaaLay
set_option linter.unusedVariables false
set_option linter.unusedSimpArgs false
namespace Go.Proofs.Ytoakgoigamigjaa
open Go.RowKit

/-- Rows set one after the other. -/
def setRows (ls : List LaneR) (ks : Nat → Nat) (ρ : Nat → LRow) (rows : List LRow) : List LRow := ls.foldl (fun L r => L.set (ks r.ja) (ρ r.ja)) rows
theorem setRows_len (ls : List LaneR) (ks : Nat → Nat) (ρ : Nat → LRow) : ∀ rows : List LRow, (setRows ls ks ρ rows).length = rows.length := by
  induction ls with
  | nil => intro rows; rfl
  | cons r ls ih => intro rows; show (setRows ls ks ρ (rows.set _ _)).length = _; rw [ih, List.length_set]
theorem setRows_other {ls : List LaneR} {ks : Nat → Nat} {ρ : Nat → LRow} {k : Nat} (h : ∀ r ∈ ls, ks r.ja ≠ k) : ∀ rows : List LRow, (setRows ls ks ρ rows)[k]? = rows[k]? := by
  induction ls with
  | nil => intro rows; rfl
  | cons r ls ih =>
    intro rows
    show (setRows ls ks ρ (rows.set _ _))[k]? = _
    rw [ih (fun q hq => h q (List.mem_cons_of_mem _ hq)), List.getElem?_set, if_neg (h r (List.mem_cons_self ..))]
theorem setRows_at {ls : List LaneR} {ks : Nat → Nat} {ρ : Nat → LRow} (hinj : ∀ r ∈ ls, ∀ q ∈ ls, ks r.ja = ks q.ja → r.ja = q.ja) : ∀ rows : List LRow, ∀ r ∈ ls, ks r.ja < rows.length → (setRows ls ks ρ rows)[ks r.ja]? = some (ρ r.ja) := by
  induction ls with
  | nil => intro rows r hr; cases hr
  | cons q ls ih =>
    intro rows r hr hlt
    show (setRows ls ks ρ (rows.set _ _))[ks r.ja]? = _
    by_cases hin : ∃ p ∈ ls, p.ja = r.ja
    · obtain ⟨p, hp, hpe⟩ := hin
      rw [← hpe]
      exact ih (fun a ha b hb => hinj a (List.mem_cons_of_mem _ ha) b (List.mem_cons_of_mem _ hb)) _ p hp (by rw [hpe, List.length_set]; exact hlt)
    · have hrq : r = q := by
        rcases List.mem_cons.1 hr with h | h
        · exact h
        · exact absurd ⟨r, h, rfl⟩ hin
      subst hrq
      rw [setRows_other, List.getElem?_set, if_pos rfl, if_pos hlt]
      intro p hp e
      exact hin ⟨p, hp, hinj p (List.mem_cons_of_mem _ hp) r (List.mem_cons_self ..) e⟩

/-- The lanes' rows, told by the layout. -/
structure LaysAt (rows : List LRow) (ks : Nat → Nat) (ls : List LaneR) : Prop where
  at_ : ∀ r ∈ ls, rows[ks r.ja]? = some ⟨r.A, r.e, 1, r.n, r.c, r.f⟩
  inj : ∀ r ∈ ls, ∀ q ∈ ls, ks r.ja = ks q.ja → r.ja = q.ja

theorem lx_not {rows : List LRow} {ks : Nat → Nat} {ls : List LaneR} {w0 w : World} (h : Lay w0 w rows) (hk : LaysAt rows ks ls) (j : Nat) {g : Nat} {ty : TypeId} {sz n cap : Nat} {F : Nat → Value} (hj : rows[j]? = some ⟨some ⟨g, 0, none⟩, ty, sz, n, cap, F⟩) (hne : ∀ r ∈ ls, ks r.ja ≠ j) : ¬ LX ls g := by
  rintro ⟨r, hr, he⟩
  rcases h.ap _ j _ _ (hne r hr) (hk.at_ r hr) hj with h1 | h1
  · rw [he] at h1; cases h1
  · exact h1 he
theorem lay_cell {rows : List LRow} {ks : Nat → Nat} {ls : List LaneR} {w0 w w1 : World} (h : Lay w0 w rows) (hk : LaysAt rows ks ls) (hkp : Kept (LX ls) w w1) (j : Nat) {g : Nat} {ty : TypeId} {sz : Nat} {F : Nat → Value} (hj : rows[j]? = some (blk g ty sz F)) (hne : ∀ r ∈ ls, ks r.ja ≠ j) (o : Nat) (ho : o < sz) : w1.cell? ⟨g, o, none⟩ = some (F o) :=
  (hkp.cell (p := ⟨g, o, none⟩) (h.at_ j hj).2 (lx_not h hk j hj hne)).trans (h.cellB j hj o ho)

/-- What an operation yields: a value; a box of a value. -/
inductive EK where
  | v (x : Value)
  | box (e : TypeId) (x : Value)
def eOf (s : Nat) (l : List EK) (i : Nat) (v : Value) (w : World) : Prop := match l[i]? with
  | some (.v x) => v = x
  | some (.box e x) => BoxOf s e (fun u _ => u = x) v w
  | none => False
theorem eOf_kept {s : Nat} {l : List EK} {i : Nat} {v : Value} {w1 w2 : World} (h : eOf s l i v w1) (hk : Kept (fun k => k < s) w1 w2) : eOf s l i v w2 := by
  unfold eOf at h ⊢
  split at h
  · exact h
  · exact BoxOf.kept h hk (fun k hk => hk) (fun u h => h)
  · exact h
abbrev lane (ja jl jb : Nat) (T e : TypeId) (bytes : Nat) (A : Option Addr) (n c : Nat) (f : Nat → Value) : LaneR := ⟨ja, jl, jb, T, e, bytes, A, n, c, f, fun u _ => u = f n⟩
theorem does_v {P : Program} {o : Oper} {a : Act} {w : World} {s : Nat} {l : List EK} {i : Nat} (x : Value) (hl : l[i]? = some (.v x)) (h : (execOp a.eval o).run P w = .ok (.value x) w) : Does P o a w fun v w2 => Below w.heap.size w w2 ∧ eOf s l i v w2 :=
  does_run h ⟨Below.refl _ _, by unfold eOf; rw [hl]⟩
theorem does_box {P : Program} {o : Oper} {a : Act} {w : World} {s : Nat} {l : List EK} {i : Nat} (e : TypeId) (x : Value) (hl : l[i]? = some (.box e x)) (h1 : x.oneCell' = true) (hs : s ≤ w.heap.size) (h : (execOp a.eval o).run P w = .ok (.value (.slice (some ⟨w.heap.size, 0, none⟩) 1 1)) (w.alloc (.cells #[x] e))) : Does P o a w fun v w2 => Below w.heap.size w w2 ∧ eOf s l i v w2 :=
  does_run h ⟨(Below.refl _ _).alloc (Nat.le_refl _) _, by unfold eOf; rw [hl]; exact BoxOf.made hs h1 rfl⟩
theorem does_f {P : Program} {o : Oper} {a : Act} {w : World} {s : Nat} {l : List EK} {i : Nat} {f : FuncId} {args : Array Value} (x : Value) (hl : l[i]? = some (.v x)) (h : (execOp a.eval o).run P w = .ok (.enter f args) w) (hc : Calls P f args w fun e w' => e = .returned x ∧ Below w.heap.size w w') : Does P o a w fun v w2 => Below w.heap.size w w2 ∧ eOf s l i v w2 :=
  does_call h (hc.mono fun e w' ⟨he, hb⟩ => ⟨x, he, hb, by unfold eOf; rw [hl]⟩)
theorem wp_lay {P : Program} {Q : Exit → Act → World → Prop} {id : Nat} {a0 : Act} {w0 w : World} {l : List Oper} {rows : List LRow} (hLay : Lay w0 w rows) (H D T : List Nat) (n : Nat) (ls : List LaneR) (ks : Nat → Nat) (el : List EK) (S : World → Prop)
    (hm : P.follows .mixedOrders = true) (hB : freeB .any l.toArray H T = true) (hD : H.map (dstOf l.toArray) = D) (hnd : D.Nodup) (hsz : (D.all fun d => decide (d < a0.tmps.size)) = true) (hT : T.map (l.toArray[·]?) = (l.drop n).map some)
    (hk : LaysAt rows ks ls) (hinj : ∀ r ∈ ls, isLane ls r.ja = some r) (hval : ∀ r ∈ ls, r.src = fun u _ => u = r.f r.n)
    (hok : ∀ r ∈ ls, LaneOk P l.toArray H ls w.heap.size (eOf w.heap.size el) r)
    (hS0 : LaysAt rows ks ls → ∀ w1, Kept (LX ls) w w1 → S w1)
    (hext : ∀ i ∈ H, isLane ls i = none → ∀ o, l.toArray[i]? = some o → ∀ (a : Act) w1, w.heap.size ≤ w1.heap.size → S w1 → (∀ k, k ∉ D → a.tmps[k]?.getD undef = a0.tmps[k]?.getD undef) →
      (∀ j d, waitB o j = true → isLane ls j = none → dstOf l.toArray j = d → eOf w.heap.size el j (a.tmps[d]?.getD undef) w1) → Does P o a w1 fun v w2 => Below w1.heap.size w1 w2 ∧ eOf w.heap.size el i v w2)
    (hend : ∀ (y : Nat → Value) (ρ : Nat → LRow) (w' : World), (∀ i ∈ H, isLane ls i = none → eOf w.heap.size el i (y i) w') → S w' →
      (∀ r ∈ ls, ∃ A' cap', y r.ja = .slice A' (r.n + 1) cap' ∧ ρ r.ja = ⟨A', r.e, 1, r.n + 1, cap', r.f⟩) → Lay w0 w' (setRows ls ks ρ rows) → wpList P l.toArray Q (l.drop n) ((H.zip D).foldl (fun b p => b.put (some p.2) (y p.1)) a0) w') :
    (Code.region id l.toArray true).wp P Q a0 w := by
  have hS := hS0 hk
  have hown : ∀ r ∈ ls, Own w w0.heap.size r.e 1 r.A r.n r.c r.f := fun r hr => hLay.own _ _ (hk.at_ r hr)
  have hne : ∀ r ∈ ls, ∀ r' ∈ ls, r.ja ≠ r'.ja → ablock r.A = none ∨ ablock r.A ≠ ablock r'.A := fun r hr r' hr' h => hLay.ap _ _ _ _ (fun e => h (hk.inj r hr r' hr' e)) (hk.at_ r hr) (hk.at_ r' hr')
  have hX : ∀ k, LX ls k → k < w.heap.size := fun k hx => LX.lt hown hx
  refine wp_lanes H D T n ls (eOf w.heap.size el) w0.heap.size hm hB hD hnd hsz hT hLay.size hown hne hinj hok (fun i hi hn v w1 w2 he hs hkp => eOf_kept he (hkp.mono hX)) (fun r hr v w1 w2 hv _ _ => by rw [hval r hr] at hv ⊢; exact hv)
    (fun i hi hn o ho a w1 hs hkp hold hf => hext i hi hn o ho a w1 hs (hS w1 hkp) hold hf) ?_
  intro y w' hy hkp hdis
  have hrow : ∀ r ∈ ls, ∃ A' cap', y r.ja = .slice A' (r.n + 1) cap' ∧ Own w' w0.heap.size r.e 1 A' (r.n + 1) cap' r.f ∧ (ablock A' = ablock r.A ∨ ∃ k, ablock A' = some k ∧ w.heap.size ≤ k) := by
    intro r hr
    have := hy r.ja (hok r hr).inH
    unfold LR at this
    rw [hinj r hr] at this
    obtain ⟨kv, A', cap', e, h1, h2, h3⟩ := this
    rw [hval r hr] at h1
    subst h1
    refine ⟨A', cap', e, h2.congr1 fun i hi => ?_, h3⟩
    show (if i < r.n then r.f i else _) = _
    split
    · rfl
    · rw [show i = r.n by omega]
  have hex : ∃ ρ : Nat → LRow, ∀ r ∈ ls, ∃ A' cap', y r.ja = .slice A' (r.n + 1) cap' ∧ ρ r.ja = ⟨A', r.e, 1, r.n + 1, cap', r.f⟩ := by
    refine ⟨fun j => match isLane ls j, y j with
      | some r, .slice A' _ cap' => ⟨A', r.e, 1, r.n + 1, cap', r.f⟩
      | _, _ => ⟨none, 0, 1, 0, 0, fun _ => undef⟩, fun r hr => ?_⟩
    obtain ⟨A', cap', e, _, _⟩ := hrow r hr
    refine ⟨A', cap', e, ?_⟩
    simp only [hinj r hr, e]
  obtain ⟨ρ, hρ⟩ := hex
  have hrow' : ∀ r ∈ ls, Own w' w0.heap.size (ρ r.ja).ty (ρ r.ja).sz (ρ r.ja).a (ρ r.ja).n (ρ r.ja).cap (ρ r.ja).F ∧ (ablock (ρ r.ja).a = ablock r.A ∨ ∃ k, ablock (ρ r.ja).a = some k ∧ w.heap.size ≤ k) := by
    intro r hr
    obtain ⟨A', cap', e, h2, h3⟩ := hrow r hr
    obtain ⟨A2, cap2, e2, h4⟩ := hρ r hr
    rw [e] at e2
    injection e2 with e3 _ e5
    subst e3 e5
    rw [h4]
    exact ⟨h2, h3⟩
  refine hend y ρ w' (fun i hi hn => by have := hy i hi; unfold LR at this; rw [hn] at this; exact this) (hS w' hkp) hρ ?_
  have hlt : ∀ r ∈ ls, ks r.ja < rows.length := fun r hr => (List.getElem?_eq_some_iff.1 (hk.at_ r hr)).1
  have key : ∀ (k : Nat) (q : LRow), (setRows ls ks ρ rows)[k]? = some q → (∃ r ∈ ls, ks r.ja = k ∧ q = ρ r.ja) ∨ ((∀ r ∈ ls, ks r.ja ≠ k) ∧ rows[k]? = some q) := by
    intro k q hq
    by_cases h : ∃ r ∈ ls, ks r.ja = k
    · obtain ⟨r, hr, rfl⟩ := h
      rw [setRows_at hk.inj rows r hr (hlt r hr)] at hq
      injection hq with hq
      exact .inl ⟨r, hr, rfl, hq.symm⟩
    · have h' : ∀ r ∈ ls, ks r.ja ≠ k := fun r hr e => h ⟨r, hr, e⟩
      rw [setRows_other h'] at hq
      exact .inr ⟨h', hq⟩
  have old : ∀ (k : Nat) (q : LRow), rows[k]? = some q → ∀ b, ablock q.a = some b → b < w.heap.size := fun k q hq b hb => (hLay.lt hq b hb).2
  refine ⟨fun k q hq => ?_, fun i j p q hij hi hj => ?_, ?_⟩
  · rcases key k q hq with ⟨r, hr, _, rfl⟩ | ⟨hno, hq'⟩
    · exact (hrow' r hr).1
    · refine (hLay.own k q hq').kept hkp fun b hb ⟨r, hr, hrb⟩ => ?_
      rcases hLay.ap (ks r.ja) k _ q (hno r hr) (hk.at_ r hr) hq' with h | h
      · rw [hrb] at h; cases h
      · exact h (by rw [hrb, hb])
  · have lane_old : ∀ r ∈ ls, ∀ (k : Nat) (q : LRow), (∀ r ∈ ls, ks r.ja ≠ k) → rows[k]? = some q → ablock q.a = none ∨ ablock q.a ≠ ablock (ρ r.ja).a := by
      intro r hr k q hno hq
      rcases (hrow' r hr).2 with h | ⟨b, hb, hbs⟩
      · rw [h]
        exact hLay.ap k (ks r.ja) q _ (fun e => hno r hr e.symm) hq (hk.at_ r hr)
      · refine .inr fun e => ?_
        have := old k q hq b (by rw [e, hb])
        omega
    have flip : ∀ {x y : Option Nat}, (x = none ∨ x ≠ y) → (y = none ∨ y ≠ x) := by
      intro x y h
      cases y with
      | none => exact .inl rfl
      | some b =>
        refine .inr fun e => ?_
        rcases h with h | h
        · rw [h] at e; cases e
        · exact h e.symm
    rcases key i p hi with ⟨r, hr, hri, rfl⟩ | ⟨hno, hp⟩
    · rcases key j q hj with ⟨r', hr', hrj, rfl⟩ | ⟨hno', hq⟩
      · have hja : r.ja ≠ r'.ja := fun e => hij (by rw [← hri, ← hrj, e])
        obtain ⟨A1, c1, e1, h1⟩ := hρ r hr
        obtain ⟨A2, c2, e2, h2⟩ := hρ r' hr'
        rw [h1, h2]
        exact hdis r hr r' hr' hja rfl rfl _ _ _ _ _ _ e1 e2
      · exact flip (lane_old r hr j q hno' hq)
    · rcases key j q hj with ⟨r', hr', hrj, rfl⟩ | ⟨hno', hq⟩
      · exact lane_old r' hr' i p hno hp
      · exact hLay.ap i j p q hij hp hq
  · exact hLay.bel.trans (hkp.below hLay.size fun b hb ⟨r, hr, hrb⟩ => by have := (hLay.lt (hk.at_ r hr) b hrb).1; omega)
end Go.Proofs.Ytoakgoigamigjaa
