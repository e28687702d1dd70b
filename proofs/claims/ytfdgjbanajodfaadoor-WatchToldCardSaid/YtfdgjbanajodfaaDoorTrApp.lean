/- Scripts of deeds behind one another; what Play tells, as the laws read it. -/
import Derived.Test.YtfdgjbanajodfaaDoorTrPlay
set_option linter.unusedVariables false
set_option linter.unusedSimpArgs false
namespace Go.Proofs.YtfdgjbanajodfaaDoor
open Go.RowKit

theorem infoDeed : (Tryd.prog.info? 30).map (fun i => (i.zero, i.size, i.bytes)) = some (some (.agg #[.int .i64 0, .string ⟨#[]⟩, .string ⟨#[]⟩, .int .i64 0]), 4, 48) := by kernel_rfl
def Dz : Deed := ⟨0, [], [], 0⟩
def appD (D : Nat → Deed) (q : Nat) (N : Nat → Deed) (j : Nat) : Deed := if j < q then D j else N (j - q)
theorem appD_zero (E D : Nat → Deed) : appD E 0 D = D := by
  funext j
  unfold appD
  rw [if_neg (by omega), Nat.sub_zero]
theorem appD_old (D : Nat → Deed) (q : Nat) (N : Nat → Deed) {j : Nat} (h : j < q) : appD D q N j = D j := if_pos h
theorem appD_new (D : Nat → Deed) (q : Nat) (N : Nat → Deed) (j : Nat) : appD D q N (q + j) = N j := by
  unfold appD
  rw [if_neg (by omega), Nat.add_sub_cancel_left]
theorem ddF_old (D : Nat → Deed) (q : Nat) (N : Nat → Deed) {j : Nat} (hj : j < q * 4) : ddF (appD D q N) j = ddF D j := by
  show ofL (cellsD (appD D q N (j / 4))) (j % 4) = _
  rw [appD_old D q N (show j / 4 < q by omega)]
theorem ddF_new (D : Nat → Deed) (q : Nat) (N : Nat → Deed) (j : Nat) : ddF (appD D q N) (q * 4 + j) = ddF N j := by
  show ofL (cellsD (appD D q N ((q * 4 + j) / 4))) ((q * 4 + j) % 4) = _
  rw [show (q * 4 + j) / 4 = q + j / 4 by omega, show (q * 4 + j) % 4 = j % 4 by omega, appD_new]
theorem ddF_one (D : Nat → Deed) (j : Nat) : (ddF D j).oneCell' = true := by
  have : j % 4 = 0 ∨ j % 4 = 1 ∨ j % 4 = 2 ∨ j % 4 = 3 := by omega
  unfold ddF
  rcases this with h | h | h | h <;> rw [h] <;> rfl
theorem wpList_apDs {w : World} {ops : Array Oper} {rest : List Oper} {o : Oper} {a : Act} {Q : Exit → Act → World → Prop} (hgd : o.guard = none) (s x : Operand)
    (ho : o.op = .call { callee := .builtin .append, args := #[s, x], argTypes := #[41, 41] }) (base : Nat)
    {A : Option Addr} {q cap : Nat} {D : Nat → Deed} (hs : a.eval s = .slice A q cap) (hown : Own w base 30 4 A q cap (ddF D))
    {B : Nat} {X : Option Addr} {m c : Nat} {N : Nat → Deed} (hx : a.eval x = .slice X m c) (hr : Rd w B X (m * 4) (ddF N)) (k : Nat) (hk : q + m = k) (h63 : q + m ≤ maxLen) (hbytes : (q + m) * 48 ≤ 140737488355328) (hbase : base ≤ w.heap.size)
    (h : ∀ A' cap' w', Own w' base 30 4 A' k cap' (ddF (appD D q N)) → w.grownBy w' (ablock A) → (ablock A' = ablock A ∨ ablock A' = some w.heap.size) → wpList Tryd.prog ops Q rest (a.put o.dst (.slice A' k cap')) w') :
    wpList Tryd.prog ops Q (o :: rest) a w := by
  obtain ⟨i0, hi0, hz0, hz1, hz2⟩ := info_parts infoDeed
  exact wpList_ap hgd s x _ ho 30 i0 _ 4 48 Tryd.underlying41 hi0 hz0 hz1 hz2 rfl (by omega) base hs hown hx hr
    (fun j _ => ddF_one N j) (ddF (appD D q N)) (fun j hj => ddF_old D q N hj) (fun j _ => ddF_new D q N j) k hk h63 hbytes hbase h
/-- Some deeds of a list, written out. -/
def lsD (l : List Deed) (j : Nat) : Deed := l.getD j Dz
def cellsDs : List Deed → List Value
  | [] => []
  | d :: l => cellsD d ++ cellsDs l
theorem cellsDs_at : ∀ (l : List Deed) (j : Nat), j < l.length * 4 → (cellsDs l)[j]? = some (ddF (lsD l) j)
  | [], j, h => absurd h (by simp)
  | d :: l, j, h => by
    by_cases hj : j < 4
    · have e : ddF (lsD (d :: l)) j = ofL (cellsD d) j := by
        show ofL (cellsD (lsD (d :: l) (j / 4))) (j % 4) = _
        rw [show j / 4 = 0 by omega, show j % 4 = j by omega]; rfl
      rw [e]
      rcases (by omega : j = 0 ∨ j = 1 ∨ j = 2 ∨ j = 3) with rfl | rfl | rfl | rfl <;> rfl
    · obtain ⟨i, rfl⟩ : ∃ i, j = 4 + i := ⟨j - 4, by omega⟩
      have e : ddF (lsD (d :: l)) (4 + i) = ddF (lsD l) i := by
        show ofL (cellsD (lsD (d :: l) ((4 + i) / 4))) ((4 + i) % 4) = _
        rw [show (4 + i) / 4 = i / 4 + 1 by omega, show (4 + i) % 4 = i % 4 by omega]; rfl
      rw [e, ← cellsDs_at l i (by simp at h; omega)]
      show (cellsD d ++ cellsDs l)[4 + i]? = _
      rw [List.getElem?_append_right (by simp), show 4 + i - (cellsD d).length = i by simp [cellsD]]
theorem runS_congr {D E : Nat → Deed} : ∀ j, (∀ i, i < j → D i = E i) → runS T0 D j = runS T0 E j
  | 0, _ => rfl
  | j + 1, h => by
    show (doS (runS T0 D j) (D j)).2 = (doS (runS T0 E j) (E j)).2
    rw [runS_congr j fun i hi => h i (by omega), h j (by omega)]
theorem ansS_congr {D E : Nat → Deed} (j : Nat) (h : ∀ i, i ≤ j → D i = E i) : ansS T0 D j = ansS T0 E j := by
  show (doS (runS T0 D j) (D j)).1 = (doS (runS T0 E j) (E j)).1
  rw [runS_congr j fun i hi => h i (by omega), h j (Nat.le_refl _)]
theorem runS_app (D N : Nat → Deed) (q : Nat) : ∀ k, runS T0 (appD D q N) (q + k) = runS (runS T0 D q) N k
  | 0 => runS_congr q fun i hi => appD_old D q N hi
  | k + 1 => by
    show (doS (runS T0 (appD D q N) (q + k)) (appD D q N (q + k))).2 = (doS (runS (runS T0 D q) N k) (N k)).2
    rw [runS_app D N q k, appD_new]
theorem ansS_app (D N : Nat → Deed) (q k : Nat) : ansS T0 (appD D q N) (q + k) = (doS (runS (runS T0 D q) N k) (N k)).1 := by
  show (doS (runS T0 (appD D q N) (q + k)) (appD D q N (q + k))).1 = _
  rw [runS_app, appD_new]
theorem ans_len {k : Nat} {st : TS} (h : TrB k st) (d : Deed) : (doS st d).1.names.length ≤ 12 := by
  unfold doS
  repeat' split
  all_goals first
    | exact Nat.zero_le _
    | (show (srtL _).length ≤ 12
       rw [srt_len]
       unfold partsOf
       rw [List.length_map]
       exact Nat.le_trans (List.length_filter_le _ _) h.len)
theorem ans_ver {k : Nat} {st : TS} (h : TrB k st) (d : Deed) : 0 ≤ (doS st d).1.ver ∧ (doS st d).1.ver ≤ (k : Int) + 1 := by
  have hv := h.ver d.path
  unfold doS
  repeat' split
  all_goals first
    | (show (0 : Int) ≤ 0 ∧ (0 : Int) ≤ (k : Int) + 1; omega)
    | (show (0 : Int) ≤ ((st.ver d.path : Nat) : Int) ∧ ((st.ver d.path : Nat) : Int) ≤ (k : Int) + 1; omega)
    | (show (0 : Int) ≤ ((st.ver d.path : Nat) : Int) + 1 ∧ ((st.ver d.path : Nat) : Int) + 1 ≤ (k : Int) + 1; omega)
theorem ansS_len {D : Nat → Deed} {j : Nat} (h : ∀ i, i < j → DeedL (D i)) : (ansS T0 D j).names.length ≤ 12 := ans_len (run_ok D j h) (D j)
/-- What Play told, as the laws read it. -/
structure PlR (w : World) (B : Nat) (A : Option Addr) (n : Nat) (NA : Nat → Option Addr) (NC : Nat → Nat) (a : Nat → Ans) : Prop where
  le : B ≤ w.heap.size
  T : Rd w B A (n * 4) (fun j => ofL (toldL (NA (j / 4)) (NC (j / 4)) (a (j / 4))) (j % 4))
  N : ∀ t, t < n → Rd w B (NA t) (a t).names.length (strF (a t).names)
theorem PlR.to {w w' : World} {B : Nat} {A : Option Addr} {n : Nat} {NA : Nat → Option Addr} {NC : Nat → Nat} {a : Nat → Ans} (h : PlR w B A n NA NC a) (hb : Below w.heap.size w w') : PlR w' B A n NA NC a :=
  ⟨Nat.le_trans h.le hb.size, h.T.below (hb.mono h.le), fun t ht => (h.N t ht).below (hb.mono h.le)⟩
theorem PlR.rec4 {w : World} {B : Nat} {A : Option Addr} {n : Nat} {NA : Nat → Option Addr} {NC : Nat → Nat} {a : Nat → Ans} (h : PlR w B A n NA NC a) {t : Nat} (ht : t < n) :
    ∃ ad, A = some ad ∧ ad.block < B ∧ w.cell? (ad.add (t * 4)) = some (.int .i64 (a t).code) ∧ w.cell? ⟨(ad.add (t * 4)).block, (ad.add (t * 4)).off + 1, none⟩ = some (.string (bs (a t).data)) ∧
      w.cell? ⟨(ad.add (t * 4)).block, (ad.add (t * 4)).off + 2, none⟩ = some (.int .i64 (a t).ver) ∧ w.cell? ⟨(ad.add (t * 4)).block, (ad.add (t * 4)).off + 3, none⟩ = some (.slice (NA t) (a t).names.length (NC t)) := by
  obtain ⟨ad, e, hb, hc⟩ := h.T (by omega)
  have e0 : ∀ k, k < 4 → ofL (toldL (NA ((t * 4 + k) / 4)) (NC ((t * 4 + k) / 4)) (a ((t * 4 + k) / 4))) ((t * 4 + k) % 4) = ofL (toldL (NA t) (NC t) (a t)) k := fun k hk => by
    rw [show (t * 4 + k) / 4 = t by omega, show (t * 4 + k) % 4 = k by omega]
  have h0 := (hc (t * 4 + 0) (by omega)).trans (congrArg some (e0 0 (by omega)))
  have h1 := (hc (t * 4 + 1) (by omega)).trans (congrArg some (e0 1 (by omega)))
  have h2 := (hc (t * 4 + 2) (by omega)).trans (congrArg some (e0 2 (by omega)))
  have h3 := (hc (t * 4 + 3) (by omega)).trans (congrArg some (e0 3 (by omega)))
  rw [← addr_add] at h1 h2 h3
  exact ⟨ad, e, hb, h0, h1, h2, h3⟩
theorem plR_of {w w' : World} {AC : Option Addr} {n c : Nat} {G : Nat → Value} {VR : List LRow} {a : Nat → Ans} (hL : Lay w w' (rowTd AC n c G :: VR)) (h : ∀ t, t < n → TdI VR G t (a t)) : ∃ NA NC, PlR w' w'.heap.size AC n NA NC a ∧ ∀ t, t < n → ∀ b, ablock (NA t) = some b → w.heap.size ≤ b := by
  have hall : ∀ t, ∃ (A : Option Addr) (c : Nat), t < n → (∀ j, j < 4 → G (t * 4 + j) = ofL (toldL A c (a t)) j) ∧ Rd w' w'.heap.size A (a t).names.length (strF (a t).names) ∧ ∀ b, ablock A = some b → w.heap.size ≤ b := fun t => by
    by_cases ht : t < n
    · obtain ⟨k, A, c, h1, h2⟩ := h t ht
      have := (hL.own (k + 1) _ h1).rd
      rw [Nat.mul_one] at this
      exact ⟨A, c, fun _ => ⟨h2, this, fun b hb => (hL.lt (k := k + 1) h1 b hb).1⟩⟩
    · exact ⟨none, 0, fun h => absurd h ht⟩
  obtain ⟨NA, h1⟩ := Classical.skolem.1 hall
  obtain ⟨NC, h2⟩ := Classical.skolem.1 h1
  refine ⟨NA, NC, ⟨Nat.le_refl _, (hL.own 0 _ rfl).rd.congr fun j hj => ?_, fun t ht => (h2 t ht).2.1⟩, fun t ht => (h2 t ht).2.2⟩
  have := (h2 (j / 4) (by have : j < n * 4 := hj; omega)).1 (j % 4) (by omega)
  rw [show j / 4 * 4 + j % 4 = j by omega] at this
  exact this
theorem Rd.off {w : World} {B n : Nat} {A : Option Addr} {f : Nat → Value} (h : Rd w B A n f) (p : Addr) (u : Value) (hne : ∀ b, ablock A = some b → b ≠ p.block) : Rd (w.setCell p u) B A n f := fun hn => by
  obtain ⟨ad, e, hb, hc⟩ := h hn
  refine ⟨ad, e, hb, fun j hj => ?_⟩
  rw [← hc j hj]
  unfold World.cell?
  rw [addr_block, Below.heap_setCell _ _ _ _ (hne ad.block (by rw [e]; rfl))]
theorem play_law (m cap B : Nat) (A : Option Addr) (D : Nat → Deed) (w : World) (hm : m ≤ 60) (hB : B ≤ w.heap.size) (hD : ∀ i, i < m → DeedL (D i)) (hr : Rd w B A (m * 4) (ddF D)) :
    Calls Tryd.prog 11 #[.slice A m cap] w fun e w' => ∃ AC cC NA NC, e = .returned (.tuple #[.slice AC m cC, .int .i64 0]) ∧ Below w.heap.size w w' ∧ PlR w' w'.heap.size AC m NA NC (ansS T0 D) ∧ ∀ t, t < m → ∀ b, ablock (NA t) = some b → w.heap.size ≤ b := by
  refine (play_good m cap B A D w hm hB hD hr).mono ?_
  rintro e w' ⟨v, rfl, AC, cC, G, VR, rfl, hL, hT⟩
  obtain ⟨NA, NC, h, h2⟩ := plR_of hL hT
  exact ⟨AC, cC, NA, NC, rfl, hL.bel, h, h2⟩
end Go.Proofs.YtfdgjbanajodfaaDoor
