/- wp_lay, where what is appended may be told by what is true of it (a fresh copy, say). -/
import Derived.Test.YtfhmabpalimcnaaLaL
set_option linter.unusedVariables false
set_option linter.unusedSimpArgs false
namespace Go.Proofs.Ytfhmabpalimcnaa
open Go.RowKit

/-- It stays true while the blocks below s but some stay. -/
def Stays (s : Nat) (φ : Value → World → Prop) : Prop := ∀ v w1 w2, φ v w1 → Kept (fun k => k < s) w1 w2 → φ v w2
def eP (el : List (Value → World → Prop)) (i : Nat) (v : Value) (w : World) : Prop := match el[i]? with
  | some φ => φ v w
  | none => False
theorem eP_kept {s : Nat} {el : List (Value → World → Prop)} (hst : ∀ φ ∈ el, Stays s φ) {i : Nat} {v : Value} {w1 w2 : World} (h : eP el i v w1) (hk : Kept (fun k => k < s) w1 w2) : eP el i v w2 := by
  unfold eP at h ⊢
  split at h
  · rename_i φ hφ
    exact hst φ (List.mem_of_getElem? hφ) v w1 w2 h hk
  · exact h
def isX (x : Value) : Value → World → Prop := fun v _ => v = x
theorem stays_x (s : Nat) (x : Value) : Stays s (isX x) := fun _ _ _ h _ => h
theorem stays_box {s : Nat} {e : TypeId} {φ : Value → World → Prop} (h : Stays s φ) : Stays s (BoxOf s e φ) := fun v w1 w2 hb hk => BoxOf.kept hb hk (fun k hk => hk) (fun u hu => h u w1 w2 hu hk)
theorem doesP {P : Program} {o : Oper} {a : Act} {w : World} {el : List (Value → World → Prop)} {i : Nat} (x : Value) (hl : el[i]? = some (isX x)) (h : (execOp a.eval o).run P w = .ok (.value x) w) : Does P o a w fun v w2 => Below w.heap.size w w2 ∧ eP el i v w2 :=
  does_run h ⟨Below.refl _ _, by unfold eP; rw [hl]; rfl⟩
theorem doesP_box {P : Program} {o : Oper} {a : Act} {w : World} {s : Nat} {el : List (Value → World → Prop)} {i : Nat} (e : TypeId) (x : Value) (φ : Value → World → Prop) (hl : el[i]? = some (BoxOf s e φ)) (h1 : x.oneCell' = true) (hs : s ≤ w.heap.size) (hφ : φ x w) (hst : Stays s φ) (h : (execOp a.eval o).run P w = .ok (.value (.slice (some ⟨w.heap.size, 0, none⟩) 1 1)) (w.alloc (.cells #[x] e))) : Does P o a w fun v w2 => Below w.heap.size w w2 ∧ eP el i v w2 :=
  does_run h ⟨(Below.refl _ _).alloc (Nat.le_refl _) _, by
    unfold eP; rw [hl]
    refine ⟨_, x, rfl, hs, ?_, h1, hst x _ _ hφ (Kept.of_below ((Below.refl _ _).alloc (Nat.le_refl _) _))⟩
    exact heap_alloc_new w _⟩
theorem doesP_call {P : Program} {o : Oper} {a : Act} {w : World} {el : List (Value → World → Prop)} {i : Nat} {f : FuncId} {args : Array Value} (φ : Value → World → Prop) (hl : el[i]? = some φ) (h : (execOp a.eval o).run P w = .ok (.enter f args) w) (hc : Calls P f args w fun e w' => ∃ x, e = .returned x ∧ φ x w' ∧ Below w.heap.size w w') : Does P o a w fun v w2 => Below w.heap.size w w2 ∧ eP el i v w2 :=
  does_call h (hc.mono fun e w' ⟨x, he, hφ, hb⟩ => ⟨x, he, hb, by unfold eP; rw [hl]; exact hφ⟩)
abbrev laneS (ja jl jb : Nat) (T e : TypeId) (bytes : Nat) (A : Option Addr) (n c : Nat) (f : Nat → Value) (src : Value → World → Prop) : LaneR := ⟨ja, jl, jb, T, e, bytes, A, n, c, f, src⟩
theorem choose_fun {α β : Type} (d : β) (P : α → β → Prop) : ∃ f : α → β, ∀ a, (∃ b, P a b) → P a (f a) := by
  refine ⟨fun a => @dite _ (∃ b, P a b) (Classical.propDecidable _) (fun h => Classical.choose h) (fun _ => d), fun a h => ?_⟩
  show P a (@dite _ (∃ b, P a b) (Classical.propDecidable _) (fun h => Classical.choose h) (fun _ => d))
  rw [dif_pos h]
  exact Classical.choose_spec h
theorem wp_layS {P : Program} {Q : Exit → Act → World → Prop} {id : Nat} {a0 : Act} {w0 w : World} {l : List Oper} {rows : List LRow} (hLay : Lay w0 w rows) (H D T : List Nat) (n : Nat) (ls : List LaneR) (ks : Nat → Nat) (el : List (Value → World → Prop)) (S : World → Prop)
    (hm : P.follows .mixedOrders = true) (hB : freeB .any l.toArray H T = true) (hD : H.map (dstOf l.toArray) = D) (hnd : D.Nodup) (hsz : (D.all fun d => decide (d < a0.tmps.size)) = true) (hT : T.map (l.toArray[·]?) = (l.drop n).map some)
    (hk : LaysAt rows ks ls) (hinj : ∀ r ∈ ls, isLane ls r.ja = some r) (hsrc : ∀ r ∈ ls, Stays w.heap.size r.src) (hst : ∀ φ ∈ el, Stays w.heap.size φ)
    (hok : ∀ r ∈ ls, LaneOk P l.toArray H ls w.heap.size (eP el) r)
    (hS0 : LaysAt rows ks ls → ∀ w1, Kept (LX ls) w w1 → S w1)
    (hext : ∀ i ∈ H, isLane ls i = none → ∀ o, l.toArray[i]? = some o → ∀ (a : Act) w1, w.heap.size ≤ w1.heap.size → S w1 → (∀ k, k ∉ D → a.tmps[k]?.getD undef = a0.tmps[k]?.getD undef) →
      (∀ j d, waitB o j = true → isLane ls j = none → dstOf l.toArray j = d → eP el j (a.tmps[d]?.getD undef) w1) → Does P o a w1 fun v w2 => Below w1.heap.size w1 w2 ∧ eP el i v w2)
    (hend : ∀ (y : Nat → Value) (ρ : Nat → LRow) (w' : World), (∀ i ∈ H, isLane ls i = none → eP el i (y i) w') → S w' →
      (∀ r ∈ ls, ∃ A' cap' u, y r.ja = .slice A' (r.n + 1) cap' ∧ r.src u w' ∧ ρ r.ja = ⟨A', r.e, 1, r.n + 1, cap', fun i => if i < r.n then r.f i else u⟩) → Kept (LX ls) w w' → Lay w0 w' (setRows ls ks ρ rows) → wpList P l.toArray Q (l.drop n) ((H.zip D).foldl (fun b p => b.put (some p.2) (y p.1)) a0) w') :
    (Code.region id l.toArray true).wp P Q a0 w := by
  have hS := hS0 hk
  have hown : ∀ r ∈ ls, Own w w0.heap.size r.e 1 r.A r.n r.c r.f := fun r hr => hLay.own _ _ (hk.at_ r hr)
  have hne : ∀ r ∈ ls, ∀ r' ∈ ls, r.ja ≠ r'.ja → ablock r.A = none ∨ ablock r.A ≠ ablock r'.A := fun r hr r' hr' h => hLay.ap _ _ _ _ (fun e => h (hk.inj r hr r' hr' e)) (hk.at_ r hr) (hk.at_ r' hr')
  have hX : ∀ k, LX ls k → k < w.heap.size := fun k hx => LX.lt hown hx
  refine wp_lanes H D T n ls (eP el) w0.heap.size hm hB hD hnd hsz hT hLay.size hown hne hinj hok (fun i hi hn v w1 w2 he hs hkp => eP_kept hst he (hkp.mono hX)) (fun r hr v w1 w2 hv _ hkp => hsrc r hr v w1 w2 hv (hkp.mono hX))
    (fun i hi hn o ho a w1 hs hkp hold hf => hext i hi hn o ho a w1 hs (hS w1 hkp) hold hf) ?_
  intro y w' hy hkp hdis
  have hrow : ∀ r ∈ ls, ∃ kv A' cap', y r.ja = .slice A' (r.n + 1) cap' ∧ r.src kv w' ∧ Own w' w0.heap.size r.e 1 A' (r.n + 1) cap' (fun i => if i < r.n then r.f i else kv) ∧ (ablock A' = ablock r.A ∨ ∃ k, ablock A' = some k ∧ w.heap.size ≤ k) := by
    intro r hr
    have := hy r.ja (hok r hr).inH
    unfold LR at this
    rw [hinj r hr] at this
    exact this
  obtain ⟨kvo, hkvo⟩ := choose_fun undef (fun (r : LaneR) (kv : Value) => ∃ A' cap', y r.ja = .slice A' (r.n + 1) cap' ∧ r.src kv w' ∧ Own w' w0.heap.size r.e 1 A' (r.n + 1) cap' (fun i => if i < r.n then r.f i else kv) ∧ (ablock A' = ablock r.A ∨ ∃ k, ablock A' = some k ∧ w.heap.size ≤ k))
  have hkv : ∀ r ∈ ls, ∃ A' cap', y r.ja = .slice A' (r.n + 1) cap' ∧ r.src (kvo r) w' ∧ Own w' w0.heap.size r.e 1 A' (r.n + 1) cap' (fun i => if i < r.n then r.f i else kvo r) ∧ (ablock A' = ablock r.A ∨ ∃ k, ablock A' = some k ∧ w.heap.size ≤ k) := fun r hr => hkvo r (hrow r hr)
  have hex : ∃ ρ : Nat → LRow, ∀ r ∈ ls, ∃ A' cap', y r.ja = .slice A' (r.n + 1) cap' ∧ ρ r.ja = ⟨A', r.e, 1, r.n + 1, cap', fun i => if i < r.n then r.f i else kvo r⟩ := by
    refine ⟨fun j => match isLane ls j, y j with
      | some r, .slice A' _ cap' => ⟨A', r.e, 1, r.n + 1, cap', fun i => if i < r.n then r.f i else kvo r⟩
      | _, _ => ⟨none, 0, 1, 0, 0, fun _ => undef⟩, fun r hr => ?_⟩
    obtain ⟨A', cap', e, _, _⟩ := hkv r hr
    refine ⟨A', cap', e, ?_⟩
    simp only [hinj r hr, e]
  obtain ⟨ρ, hρ⟩ := hex
  have hrow' : ∀ r ∈ ls, Own w' w0.heap.size (ρ r.ja).ty (ρ r.ja).sz (ρ r.ja).a (ρ r.ja).n (ρ r.ja).cap (ρ r.ja).F ∧ (ablock (ρ r.ja).a = ablock r.A ∨ ∃ k, ablock (ρ r.ja).a = some k ∧ w.heap.size ≤ k) := by
    intro r hr
    obtain ⟨A', cap', e, _, h2, h3⟩ := hkv r hr
    obtain ⟨A2, cap2, e2, h4⟩ := hρ r hr
    rw [e] at e2
    injection e2 with e3 _ e5
    subst e3 e5
    rw [h4]
    exact ⟨h2, h3⟩
  have hρ2 : ∀ r ∈ ls, ∃ A' cap' u, y r.ja = .slice A' (r.n + 1) cap' ∧ r.src u w' ∧ ρ r.ja = ⟨A', r.e, 1, r.n + 1, cap', fun i => if i < r.n then r.f i else u⟩ := by
    intro r hr
    obtain ⟨A', cap', e, hs, _⟩ := hkv r hr
    obtain ⟨A2, cap2, e2, h4⟩ := hρ r hr
    exact ⟨A2, cap2, kvo r, e2, hs, h4⟩
  refine hend y ρ w' (fun i hi hn => by have := hy i hi; unfold LR at this; rw [hn] at this; exact this) (hS w' hkp) hρ2 hkp ?_
  have hlt : ∀ r ∈ ls, ks r.ja < rows.length := fun r hr => (List.getElem?_eq_some_iff.1 (hk.at_ r hr)).1
  have key : ∀ (k : Nat) (q : LRow), (setRows ls ks ρ rows)[k]? = some q → (∃ r ∈ ls, ks r.ja = k ∧ q = ρ r.ja) ∨ ((∀ r ∈ ls, ks r.ja ≠ k) ∧ rows[k]? = some q) := by
    intro k q hq
    by_cases h : ∃ r ∈ ls, ks r.ja = k
    · obtain ⟨r, hr, rfl⟩ := h
      rw [setRows_at hk.inj rows r hr (hlt r hr)] at hq
      injection hq with hq
      exact .inl ⟨r, hr, rfl, hq.symm⟩
    · have h' : ∀ r ∈ ls, ks r.ja ≠ k := fun r hr e => h ⟨r, hr, e⟩
      rw [setRows_other h'] at hq
      exact .inr ⟨h', hq⟩
  have old : ∀ (k : Nat) (q : LRow), rows[k]? = some q → ∀ b, ablock q.a = some b → b < w.heap.size := fun k q hq b hb => (hLay.lt hq b hb).2
  refine ⟨fun k q hq => ?_, fun i j p q hij hi hj => ?_, ?_⟩
  · rcases key k q hq with ⟨r, hr, _, rfl⟩ | ⟨hno, hq'⟩
    · exact (hrow' r hr).1
    · refine (hLay.own k q hq').kept hkp fun b hb ⟨r, hr, hrb⟩ => ?_
      rcases hLay.ap (ks r.ja) k _ q (hno r hr) (hk.at_ r hr) hq' with h | h
      · rw [hrb] at h; cases h
      · exact h (by rw [hrb, hb])
  · have lane_old : ∀ r ∈ ls, ∀ (k : Nat) (q : LRow), (∀ r ∈ ls, ks r.ja ≠ k) → rows[k]? = some q → ablock q.a = none ∨ ablock q.a ≠ ablock (ρ r.ja).a := by
      intro r hr k q hno hq
      rcases (hrow' r hr).2 with h | ⟨b, hb, hbs⟩
      · rw [h]
        exact hLay.ap k (ks r.ja) q _ (fun e => hno r hr e.symm) hq (hk.at_ r hr)
      · refine .inr fun e => ?_
        have := old k q hq b (by rw [e, hb])
        omega
    have flip : ∀ {x y : Option Nat}, (x = none ∨ x ≠ y) → (y = none ∨ y ≠ x) := by
      intro x y h
      cases y with
      | none => exact .inl rfl
      | some b =>
        refine .inr fun e => ?_
        rcases h with h | h
        · rw [h] at e; cases e
        · exact h e.symm
    rcases key i p hi with ⟨r, hr, hri, rfl⟩ | ⟨hno, hp⟩
    · rcases key j q hj with ⟨r', hr', hrj, rfl⟩ | ⟨hno', hq⟩
      · have hja : r.ja ≠ r'.ja := fun e => hij (by rw [← hri, ← hrj, e])
        obtain ⟨A1, c1, e1, h1⟩ := hρ r hr
        obtain ⟨A2, c2, e2, h2⟩ := hρ r' hr'
        rw [h1, h2]
        exact hdis r hr r' hr' hja rfl rfl _ _ _ _ _ _ e1 e2
      · exact flip (lane_old r hr j q hno' hq)
    · rcases key j q hj with ⟨r', hr', hrj, rfl⟩ | ⟨hno', hq⟩
      · exact lane_old r' hr' i p hno hp
      · exact hLay.ap i j p q hij hp hq
  · exact hLay.bel.trans (hkp.below hLay.size fun b hb ⟨r, hr, hrb⟩ => by have := (hLay.lt (hk.at_ r hr) b hrb).1; omega)
end Go.Proofs.Ytfhmabpalimcnaa
