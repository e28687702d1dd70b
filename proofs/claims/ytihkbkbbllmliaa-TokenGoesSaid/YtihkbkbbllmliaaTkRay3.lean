/- token: the steps. -/
import Derived.Test.YtihkbkbbllmliaaTkRay2
set_option linter.unusedVariables false
set_option linter.unusedSimpArgs false
namespace Go.Proofs.Ytihkbkbbllmliaa

theorem Chain.uniq {r : Nat → List Nat} {x c d : Nat} (h : Chain r x c) : Chain r x d → c = d := by
  induction h generalizing d with
  | last h => intro h'; cases h' with
    | last _ => rfl
    | next h1 h2 _ => rw [h] at h1; injection h1 with h1; exact absurd h1.symm h2
  | next h h1 _ ih => intro h'; cases h' with
    | last h2 => rw [h] at h2; injection h2 with h2; exact absurd h2 h1
    | next h2 h3 h4 => rw [h] at h2; injection h2 with h2; subst h2; rw [ih h4]
def DN (n : Nat) (s : KS) (loc c : Nat) : Int := (wayLen n s.way : Int) + 2 * c - outN n s loc
structure RS (n : Nat) (s : KS) (loc c : Nat) : Prop where
  ray : ∃ src, RJ n s loc src
  fly : s.has = -1 → Chain s.row loc c
  rest : s.has ≠ -1 → c = 0 ∧ (s.inn = loc ∨ s.row loc = [])
theorem RJ.has {n loc src : Nat} {s : KS} (h : RJ n s loc src) (hn : s.has ≠ -1) : s.has = loc := by
  rcases h.hs with h1 | h1
  · exact h1.1
  · exact absurd h1.1 hn
theorem rs_give {n loc src i c : Nat} {s : KS} (h : RJ n s loc src) (hrest : s.has ≠ -1 → i = loc ∨ s.inn = loc ∨ s.row loc = []) (hc : s.has = -1 → Chain s.row loc c) :
    ∃ loc' c', RS n (giveK i s) loc' c' ∧
      ((giveK i s = s ∧ loc' = loc ∧ (s.has = -1 → c' = c) ∧ (s.has ≠ i ∨ s.inn = i ∨ s.row i = [])) ∨
       (s.has = loc ∧ s.inn = -1 ∧ i = loc ∧ (giveK i s).has = loc ∧ (giveK i s).inn = loc ∧ wayLen n (giveK i s).way = wayLen n s.way ∧ outN n (giveK i s) loc' = outN n s loc ∧ pendN n (giveK i s) + 1 = pendN n s ∧ Chain s.row loc 0) ∨
       (s.has = loc ∧ s.inn = -1 ∧ i = loc ∧ (giveK i s).has = -1 ∧ (giveK i s).inn = -1 ∧ wayLen n (giveK i s).way + outN n s loc = wayLen n s.way + outN n (giveK i s) loc' + 2 ∧ pendN n (giveK i s) = pendN n s ∧ Chain s.row loc (c' + 1) ∧ c' + 2 ≤ n)) := by
  have keep : s.has ≠ i ∨ s.inn = i ∨ s.row i = [] → giveK i s = s := fun hs => by
    unfold giveK
    split
    · rfl
    · rename_i h1
      rcases hs with hs | hs | hs
      · exact absurd (.inl hs) h1
      · exact absurd (.inr hs) h1
      · rw [hs]
  by_cases hs : s.has ≠ i ∨ s.inn = i ∨ s.row i = []
  · have e := keep hs
    rw [e]
    by_cases hf : s.has = -1
    · exact ⟨loc, c, ⟨⟨src, h⟩, fun _ => hc hf, fun h1 => absurd hf h1⟩, .inl ⟨rfl, rfl, fun _ => rfl, hs⟩⟩
    · refine ⟨loc, 0, ⟨⟨src, h⟩, fun h1 => absurd h1 hf, fun _ => ⟨rfl, ?_⟩⟩, .inl ⟨rfl, rfl, fun h1 => absurd h1 hf, hs⟩⟩
      have h2 := h.has hf
      rcases hrest hf with q | q
      · subst q
        rcases hs with hs | hs | hs
        · exact absurd h2 hs
        · exact .inl hs
        · exact .inr hs
      · exact q
  · have h1 : s.has = i := Classical.byContradiction fun e => hs (.inl e)
    have h2 : s.inn ≠ i := fun e => hs (.inr (.inl e))
    have h3 : s.row i ≠ [] := fun e => hs (.inr (.inr e))
    have hf : s.has ≠ -1 := by omega
    have h4 := h.has hf
    obtain rfl : i = loc := by omega
    have h5 : s.inn = -1 := by
      rcases h.inn with q | ⟨q, _⟩
      · exact q
      · exact absurd q h2
    cases hw : s.row i with
    | nil => exact absurd hw h3
    | cons to l =>
      by_cases ht : to = i
      · subst ht
        have e : giveK to s = { s with row := upd s.row to l, inn := to } := by
          unfold giveK
          rw [if_neg (fun h' => h'.elim (fun q => q h1) h2), hw]
          exact if_pos rfl
        obtain ⟨q1, q2, q3⟩ := h.enter h4 hw
        rw [e]
        exact ⟨to, 0, ⟨⟨src, q1⟩, fun q => absurd q hf, fun _ => ⟨rfl, .inl rfl⟩⟩, .inr (.inl ⟨h4, h5, rfl, h4, rfl, rfl, q2, q3, .last hw⟩)⟩
      · have e : giveK i s = tokT i to l s := by
          unfold giveK
          rw [if_neg (fun h' => h'.elim (fun q => q h1) h2), hw]
          show (if to = i then _ else if l = [] then _ else _) = _
          rw [if_neg ht]; rfl
        obtain ⟨q1, q2, q3⟩ := h.pass h4 h5 hw ht
        obtain ⟨c0, hc0, hcn⟩ := h.chain h3
        cases hc0 with
        | last h6 => rw [hw] at h6; injection h6 with h6; exact absurd h6 ht
        | next h6 h7 h8 =>
          rename_i y c1 l1
          have h6' := h6
          rw [hw] at h6'
          injection h6' with h6'
          subst h6'
          have hr' : (tokT i to l s).row = upd s.row i l := by unfold tokT; split <;> rfl
          have hh' : (tokT i to l s).has = -1 := by unfold tokT; split <;> rfl
          have hi' : (tokT i to l s).inn = -1 := by unfold tokT; split <;> exact h5
          rw [e]
          refine ⟨to, c1, ⟨⟨i, q1⟩, fun _ => ?_, fun q => absurd hh' q⟩, .inr (.inr ⟨h4, h5, rfl, hh', hi', q2, q3, .next h6 h7 h8, by omega⟩)⟩
          rw [hr']
          exact h.chain_off (fun x hx => upd_ne _ _ hx) h8 ht
theorem row_stand {i who : Nat} {s : KS} : (askK i (addK i who s)).row = upd s.row i (s.row i ++ [who]) ∧ (askK i (addK i who s)).has = s.has ∧ (askK i (addK i who s)).inn = s.inn := by
  unfold askK; split <;> exact ⟨rfl, rfl, rfl⟩
theorem grow_row {i who : Nat} {r : Nat → List Nat} (x y : Nat) (l : List Nat) (h : r x = y :: l) : ∃ l', upd r i (r i ++ [who]) x = y :: l' := by
  by_cases e : x = i
  · subst e; exact ⟨l ++ [who], by rw [upd_same, h]; rfl⟩
  · exact ⟨l, by rw [upd_ne _ _ e]; exact h⟩
theorem rs_want {n loc c i : Nat} {s : KS} (h : RS n s loc c) (hi : i < n) (hin : s.inn ≠ i) (hr : i ∉ s.row i) :
    ∃ loc' c', RS n (standK i i s) loc' c' ∧ DN n (standK i i s) loc' c' = DN n s loc c ∧ ((standK i i s).has = -1 ↔ s.has = -1) ∧
      (((standK i i s).inn = s.inn ∧ pendN n (standK i i s) = pendN n s + 1) ∨ (s.has ≠ -1 ∧ (standK i i s).inn ≠ -1 ∧ s.inn = -1 ∧ pendN n (standK i i s) = pendN n s)) := by
  obtain ⟨⟨src, hJ⟩, hfl, hrest⟩ := h
  obtain ⟨j1, j2⟩ := hJ.stand (i := i) (who := i) (w1 := s.way) hi hi (fun _ => hr) (fun e => absurd rfl e) (fun y _ _ => by rw [if_neg (fun h => h.2 rfl)]; rfl) (fun _ _ => rfl) (fun _ h => h)
  have j3 := pend_stand (n := n) (i := i) (who := i) (s := s) (w1 := s.way) hi
  rw [if_pos rfl] at j3
  have j1 : RJ n (askK i (addK i i s)) loc src := j1
  have j2 : wayLen n (askK i (addK i i s)).way + outN n s loc = wayLen n s.way + outN n (askK i (addK i i s)) loc := j2
  have j3 : pendN n (askK i (addK i i s)) = pendN n s + 1 := j3
  obtain ⟨r1, r2, r3⟩ := row_stand (i := i) (who := i) (s := s)
  show ∃ loc' c', RS n (giveK i (askK i (addK i i s))) loc' c' ∧ DN n (giveK i (askK i (addK i i s))) loc' c' = DN n s loc c ∧ ((giveK i (askK i (addK i i s))).has = -1 ↔ s.has = -1) ∧
      (((giveK i (askK i (addK i i s))).inn = s.inn ∧ pendN n (giveK i (askK i (addK i i s))) = pendN n s + 1) ∨ (s.has ≠ -1 ∧ (giveK i (askK i (addK i i s))).inn ≠ -1 ∧ s.inn = -1 ∧ pendN n (giveK i (askK i (addK i i s))) = pendN n s))
  generalize askK i (addK i i s) = s1 at *
  obtain ⟨loc', c', g1, g2⟩ := rs_give (i := i) (c := c) j1 (fun q => by
    rw [r2] at q
    by_cases e : i = loc
    · exact .inl e
    · refine .inr ?_
      rw [r1, r3, upd_ne _ _ (fun h => e h.symm)]
      exact (hrest q).2) (fun q => by
    rw [r2] at q
    rw [r1]
    exact (hfl q).grow grow_row)
  refine ⟨loc', c', g1, ?_⟩
  rcases g2 with ⟨e1, e2, e3, -⟩ | ⟨e1, e2, e3, e4, e5, e6, e7, e8, -⟩ | ⟨e1, e2, e3, -, -, -, -, e4, -⟩
  · subst e2
    rw [e1] at g1 ⊢
    have hcc : c' = c := by
      by_cases hf : s.has = -1
      · exact e3 (by rw [r2]; exact hf)
      · rw [(hrest hf).1, (g1.rest (by rw [r2]; exact hf)).1]
    subst hcc
    refine ⟨?_, by rw [r2], .inl ⟨r3, j3⟩⟩
    unfold DN; omega
  · have hf : s.has ≠ -1 := by rw [← r2, e1]; omega
    have hcc : c' = c := by rw [(hrest hf).1, (g1.rest (by rw [e4]; omega)).1]
    subst hcc
    refine ⟨?_, ⟨fun q => absurd q (by rw [e4]; omega), fun q => absurd q hf⟩, .inr ⟨hf, by rw [e5]; omega, by rw [← r3]; exact e2, by omega⟩⟩
    unfold DN
    omega
  · exfalso
    have hf : s.has ≠ -1 := by rw [← r2, e1]; omega
    have hre : s.row loc = [] := by
      rcases (hrest hf).2 with q | q
      · rw [← r3, e2] at q; omega
      · exact q
    have : Chain s1.row loc 0 := .last (l := []) (by rw [r1, e3, upd_same, hre]; rfl)
    have := this.uniq e4
    omega
theorem rs_ask {n loc c f t : Nat} {s : KS} {l : List Bool} (h : RS n s loc c) (hw : s.way (f, t) = false :: l) :
    ∃ loc' c', RS n (standK t f (popK f t l s)) loc' c' ∧ pendN n (standK t f (popK f t l s)) = pendN n s ∧ (standK t f (popK f t l s)).inn = s.inn ∧
      ((((standK t f (popK f t l s)).has = -1 ↔ s.has = -1) ∧ DN n (standK t f (popK f t l s)) loc' c' + 1 = DN n s loc c) ∨
       (s.has ≠ -1 ∧ (standK t f (popK f t l s)).has = -1 ∧ s.inn = -1 ∧ DN n (standK t f (popK f t l s)) loc' c' + 1 ≤ DN n s loc c + 2 * ((n : Int) - 1))) := by
  obtain ⟨⟨src, hJ⟩, hfl, hrest⟩ := h
  obtain ⟨hfn, hfl2, hpf⟩ := hJ.wy f t (by rw [hw]; simp)
  have htn : t < n := by rw [← hpf]; exact hJ.pt f hfn
  have hft : f ≠ t := fun e => hJ.nself hfn hfl2 (by rw [hpf, e])
  have hq := wayQ_put (n := n) (q := s.way) (p := (f, t)) (l := l) hfn htn
  rw [hw] at hq
  simp only [List.length_cons] at hq
  have hin := hJ.ask f hfn hfl2
  rw [hpf, hw, nF_cons, if_pos rfl] at hin
  have hcnt : (s.row t).count f = 0 := by
    by_cases e : s.row f = []
    · rw [if_pos e] at hin; omega
    · rw [if_neg e] at hin; omega
  obtain ⟨j1, j2⟩ := hJ.stand (i := t) (who := f) (w1 := qput s.way (f, t) l) htn hfn (fun e => absurd e hft) (fun _ => ⟨hfl2, hpf⟩)
    (fun y hy hl => by
      by_cases e : y = f
      · subst e
        rw [hpf, qput_same, hw, nF_cons, if_pos ⟨rfl, hft⟩, if_pos rfl]
      · rw [qput_ne (fun e2 => e (Prod.ext_iff.1 e2).1), if_neg (fun e2 => e e2.1)]; rfl)
    (fun y x => by
      by_cases e : (y, x) = (f, t)
      · rw [e, qput_same, hw, nT_cons, if_neg (by decide)]; rfl
      · rw [qput_ne e])
    (fun p hp => by
      by_cases e : p = (f, t)
      · rw [e, hw]; simp
      · rw [qput_ne e] at hp; exact hp)
  have j3 := pend_stand (n := n) (i := t) (who := f) (s := s) (w1 := qput s.way (f, t) l) htn
  rw [if_neg hft] at j3
  obtain ⟨r1, r2, r3⟩ := row_stand (i := t) (who := f) (s := popK f t l s)
  have j1 : RJ n (askK t (addK t f (popK f t l s))) loc src := j1
  have j2 : wayLen n (askK t (addK t f (popK f t l s))).way + outN n s loc = wayLen n (qput s.way (f, t) l) + outN n (askK t (addK t f (popK f t l s))) loc := j2
  have j3 : pendN n (askK t (addK t f (popK f t l s))) = pendN n s := j3
  have r1 : (askK t (addK t f (popK f t l s))).row = upd s.row t (s.row t ++ [f]) := r1
  have r2 : (askK t (addK t f (popK f t l s))).has = s.has := r2
  have r3 : (askK t (addK t f (popK f t l s))).inn = s.inn := r3
  unfold standK
  generalize askK t (addK t f (popK f t l s)) = s1 at *
  obtain ⟨loc', c', g1, g2⟩ := rs_give (i := t) (c := c) j1 (fun q => by
    rw [r2] at q
    by_cases e : t = loc
    · exact .inl e
    · refine .inr ?_
      rw [r1, r3, upd_ne _ _ (fun h => e h.symm)]
      exact (hrest q).2) (fun q => by
    rw [r2] at q
    rw [r1]
    exact (hfl q).grow grow_row)
  refine ⟨loc', c', g1, ?_⟩
  rcases g2 with ⟨e1, e2, e3, -⟩ | ⟨e1, e2, e3, -, -, -, -, -, e4⟩ | ⟨e1, e2, e3, e4, e5, e6, e7, e8, e9⟩
  · subst e2
    rw [e1] at g1 ⊢
    have hcc : c' = c := by
      by_cases hf : s.has = -1
      · exact e3 (by rw [r2]; exact hf)
      · rw [(hrest hf).1, (g1.rest (by rw [r2]; exact hf)).1]
    subst hcc
    refine ⟨j3, r3, .inl ⟨by rw [r2], ?_⟩⟩
    unfold DN; omega
  · exfalso
    have hf : s.has ≠ -1 := by rw [← r2, e1]; omega
    have hre : s.row loc = [] := by
      rcases (hrest hf).2 with q | q
      · rw [← r3, e2] at q; omega
      · exact q
    subst e3
    cases e4 with
    | last q => rw [r1, upd_same, hre] at q; simp at q; exact hft q.1
  · have hf : s.has ≠ -1 := by rw [← r2, e1]; omega
    refine ⟨by omega, by rw [e5, ← r3, e2], .inr ⟨hf, e4, by rw [← r3]; exact e2, ?_⟩⟩
    have := (hrest hf).1
    unfold DN
    omega
theorem rs_token {n loc c f t : Nat} {s : KS} {l : List Bool} (h : RS n s loc c) (hw : s.way (f, t) = true :: l) :
    ∃ loc' c', RS n (giveK t { popK f t l s with has := t, pt := upd s.pt t t }) loc' c' ∧ s.has = -1 ∧ s.inn = -1 ∧ DN n (giveK t { popK f t l s with has := t, pt := upd s.pt t t }) loc' c' + 1 = DN n s loc c ∧
      (((giveK t { popK f t l s with has := t, pt := upd s.pt t t }).has = -1 ∧ (giveK t { popK f t l s with has := t, pt := upd s.pt t t }).inn = -1 ∧ pendN n (giveK t { popK f t l s with has := t, pt := upd s.pt t t }) = pendN n s) ∨
       ((giveK t { popK f t l s with has := t, pt := upd s.pt t t }).has ≠ -1 ∧ (giveK t { popK f t l s with has := t, pt := upd s.pt t t }).inn ≠ -1 ∧ pendN n (giveK t { popK f t l s with has := t, pt := upd s.pt t t }) + 1 = pendN n s)) := by
  obtain ⟨⟨src, hJ⟩, hfl, hrest⟩ := h
  obtain ⟨h1, h2, h3, h4, h5⟩ := hJ.arrive hw
  subst h1
  have hinn : s.inn = -1 := by
    rcases hJ.inn with q | ⟨_, q⟩
    · exact q
    · rw [h3] at q; omega
  have hrow : s.row t ≠ [] := by
    rcases hJ.hs with ⟨q, _⟩ | ⟨_, _, _, _, q⟩
    · rw [h3] at q; omega
    · exact q
  have hch := hfl h3
  have k1 : ({ popK f t l s with has := t, pt := upd s.pt t t } : KS).row = s.row := rfl
  have k2 : ({ popK f t l s with has := t, pt := upd s.pt t t } : KS).inn = s.inn := rfl
  have k3 : ({ popK f t l s with has := t, pt := upd s.pt t t } : KS).has = t := rfl
  have k4 : wayLen n ({ popK f t l s with has := t, pt := upd s.pt t t } : KS).way + 1 = wayLen n s.way := h5
  have k5 : outN n ({ popK f t l s with has := t, pt := upd s.pt t t } : KS) t = outN n s t := rfl
  have k6 : pendN n ({ popK f t l s with has := t, pt := upd s.pt t t } : KS) = pendN n s := rfl
  generalize ({ popK f t l s with has := t, pt := upd s.pt t t } : KS) = s1 at *
  obtain ⟨loc', c', g1, g2⟩ := rs_give (i := t) (c := c) h4 (fun _ => .inl rfl) (fun q => by rw [k3] at q; omega)
  refine ⟨loc', c', g1, h3, hinn, ?_⟩
  rcases g2 with ⟨-, -, -, e4⟩ | ⟨e1, e2, e3, e4, e5, e6, e7, e8, e9⟩ | ⟨e1, e2, e3, e4, e5, e6, e7, e8, e9⟩
  · exfalso
    rcases e4 with q | q | q
    · exact q k3
    · rw [k2, hinn] at q; omega
    · rw [k1] at q; exact hrow q
  · rw [k1] at e9
    have hc0 := hch.uniq e9
    have hc1 := (g1.rest (by rw [e4]; omega)).1
    refine ⟨?_, .inr ⟨by rw [e4]; omega, by rw [e5]; omega, by omega⟩⟩
    unfold DN
    omega
  · rw [k1] at e8
    have hc0 := hch.uniq e8
    refine ⟨?_, .inl ⟨e4, e5, by omega⟩⟩
    unfold DN
    omega
theorem rs_leave {n loc c i : Nat} {s : KS} (h : RS n s loc c) (hin : s.inn = i) (ho : i ∉ s.row i) :
    ∃ loc' c', RS n (giveK i { s with inn := -1 }) loc' c' ∧ s.has ≠ -1 ∧ (giveK i { s with inn := -1 }).inn = -1 ∧ pendN n (giveK i { s with inn := -1 }) = pendN n s ∧
      (((giveK i { s with inn := -1 }).has ≠ -1 ∧ DN n (giveK i { s with inn := -1 }) loc' c' = DN n s loc c) ∨
       ((giveK i { s with inn := -1 }).has = -1 ∧ DN n (giveK i { s with inn := -1 }) loc' c' ≤ DN n s loc c + 2 * ((n : Int) - 1))) := by
  obtain ⟨⟨src, hJ⟩, hfl, hrest⟩ := h
  obtain ⟨q1, q2⟩ : s.inn = loc ∧ s.has = loc := by
    rcases hJ.inn with q | q
    · rw [hin] at q; omega
    · exact q
  obtain rfl : i = loc := by omega
  have hf : s.has ≠ -1 := by rw [q2]; omega
  have h4 : RJ n { s with inn := -1 } i src := ⟨hJ.lt, hJ.pt, hJ.row, hJ.one, hJ.hs, .inl rfl, hJ.nb, hJ.ask, hJ.tok, hJ.wy, hJ.rch⟩
  have k1 : ({ s with inn := -1 } : KS).row = s.row := rfl
  have k2 : ({ s with inn := -1 } : KS).inn = -1 := rfl
  have k3 : ({ s with inn := -1 } : KS).has = s.has := rfl
  have k4 : ({ s with inn := -1 } : KS).way = s.way := rfl
  have k5 : outN n ({ s with inn := -1 } : KS) i = outN n s i := rfl
  have k6 : pendN n ({ s with inn := -1 } : KS) = pendN n s := rfl
  generalize ({ s with inn := -1 } : KS) = s1 at *
  obtain ⟨loc', c', g1, g2⟩ := rs_give (i := i) (c := c) h4 (fun _ => .inl rfl) (fun q => absurd (k3 ▸ q) hf)
  refine ⟨loc', c', g1, hf, ?_⟩
  have hc0 := (hrest hf).1
  rcases g2 with ⟨e1, e2, -, -⟩ | ⟨-, -, -, -, -, -, -, -, e9⟩ | ⟨e1, e2, e3, e4, e5, e6, e7, e8, e9⟩
  · subst e2
    rw [e1] at g1 ⊢
    have hc1 := (g1.rest (by rw [k3]; exact hf)).1
    refine ⟨k2, k6, .inl ⟨by rw [k3]; exact hf, ?_⟩⟩
    unfold DN
    rw [k4, k5, hc0, hc1]
  · exfalso
    cases e9 with
    | last q => rw [k1] at q; exact ho (by rw [q]; exact List.mem_cons_self)
  · refine ⟨e5, by omega, .inr ⟨e4, ?_⟩⟩
    rw [k4] at e6
    unfold DN
    omega
end Go.Proofs.Ytihkbkbbllmliaa
