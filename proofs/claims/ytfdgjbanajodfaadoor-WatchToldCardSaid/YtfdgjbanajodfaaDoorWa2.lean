/- The rows of a watched place with its notes; the map of kinds; the region that lays three keys. -/
import Derived.Test.YtfdgjbanajodfaaDoorWa1
import Derived.Test.YtfdgjbanajodfaaDoorUpdE
import Derived.Test.YtfdgjbanajodfaaDoorTrPar
import Derived.Test.YtfdgjbanajodfaaDoorHeld
import Derived.Maps.OwnOps
import Derived.Maps.Views
set_option linter.unusedVariables false
set_option linter.unusedSimpArgs false
namespace Go.Proofs.YtfdgjbanajodfaaDoor
open Go.RowKit Go.Maps Go.MapKept

def ntF (l : List (Nat × Str)) (j : Nat) : Value := ofL [.int .i64 ((l.getD (j / 2) (0, [])).1 : Nat), .string (bs (l.getD (j / 2) (0, [])).2)] (j % 2)
theorem ntF_old (l : List (Nat × Str)) (x : Nat × Str) {j : Nat} (h : j < l.length * 2) : ntF (l ++ [x]) j = ntF l j := by
  unfold ntF
  have : (l ++ [x]).getD (j / 2) (0, []) = l.getD (j / 2) (0, []) := by
    rw [List.getD_eq_getElem?_getD, List.getD_eq_getElem?_getD, List.getElem?_append_left (by omega)]
  rw [this]
theorem ntF_new (l : List (Nat × Str)) (a : Nat) (s : Str) (i : Nat) (h : i < 2) : ntF (l ++ [(a, s)]) (l.length * 2 + i) = ofL [.int .i64 (a : Nat), .string (bs s)] i := by
  unfold ntF
  have e1 : (l.length * 2 + i) / 2 = l.length := by omega
  have e2 : (l.length * 2 + i) % 2 = i := by omega
  rw [e1, e2]
  have : (l ++ [(a, s)]).getD l.length (0, []) = (a, s) := by
    rw [List.getD_eq_getElem?_getD, List.getElem?_append_right (Nat.le_refl _)]; simp
  rw [this]
abbrev rowNt (NA : Nat → Option Addr) (NC : Nat → Nat) (nt : Nat → List (Nat × Str)) (i : Nat) : LRow := ⟨NA i, 38, 2, (nt i).length, NC i, ntF (nt i)⟩
abbrev famNt (NA : Nat → Option Addr) (NC : Nat → Nat) (nt : Nat → List (Nat × Str)) : List LRow := (List.range 6).map (rowNt NA NC nt)
abbrev gF (NA : Nat → Option Addr) (NC : Nat → Nat) (nt : Nat → List (Nat × Str)) (i : Nat) : Value := .slice (NA i) (nt i).length (NC i)
abbrev rowNs (gn : Nat) (NA : Nat → Option Addr) (NC : Nat → Nat) (nt : Nat → List (Nat × Str)) : LRow := ⟨some ⟨gn, 0, none⟩, 36, 1, 6, 6, gF NA NC nt⟩
abbrev rowsW (pb tb mb gn : Nat) (NA : Nat → Option Addr) (NC : Nat → Nat) (nt : Nat → List (Nat × Str)) (R : List LRow) : List LRow :=
  rowPl pb tb mb gn :: rowNs gn NA NC nt :: (famNt NA NC nt ++ R)
abbrev restW (pb tb mb gn : Nat) (NA : Nat → Option Addr) (NC : Nat → Nat) (nt : Nat → List (Nat × Str)) (R : List LRow) (s : Nat) : List LRow :=
  rowPl pb tb mb gn :: rowNs gn NA NC nt :: (((List.range 6).erase s).map (rowNt NA NC nt) ++ R)
theorem pullW_perm {α : Type} (X F : List α) (f : α) (F' R : List α) (h : F.Perm (f :: F')) : (X ++ (F ++ R)).Perm (f :: (X ++ (F' ++ R))) :=
  ((h.append_right R).append_left X).trans List.perm_middle
section
variable {w0 w : World} {pb tb mb gn : Nat} {NA : Nat → Option Addr} {NC : Nat → Nat} {nt : Nat → List (Nat × Str)} {R : List LRow} {Q : List MRow} {s : Nat}
theorem wn_pull (X : List LRow) (h : LayM w0 w (X ++ rowsW pb tb mb gn NA NC nt R) Q) (hs : s < 6) : LayM w0 w (rowNt NA NC nt s :: (X ++ restW pb tb mb gn NA NC nt R s)) Q := by
  have h2 := pullW_perm (X ++ [rowPl pb tb mb gn, rowNs gn NA NC nt]) _ _ _ R (fam_perm (rowNt NA NC nt) hs)
  simp only [List.append_assoc, List.cons_append, List.nil_append] at h2
  exact h.permL h2
theorem wn_put (X : List LRow) (A : Option Addr) (c : Nat) (l : List (Nat × Str)) (h : LayM w0 w ((⟨A, 38, 2, l.length, c, ntF l⟩ : LRow) :: (X ++ (rowPl pb tb mb gn :: rowNs gn (vset NA s A) (vset NC s c) (vset nt s l) :: (((List.range 6).erase s).map (rowNt NA NC nt) ++ R)))) Q) (hs : s < 6) :
    LayM w0 w (X ++ rowsW pb tb mb gn (vset NA s A) (vset NC s c) (vset nt s l) R) Q := by
  have e : ((List.range 6).erase s).map (rowNt NA NC nt) = ((List.range 6).erase s).map (rowNt (vset NA s A) (vset NC s c) (vset nt s l)) :=
    (fam_rest fun i hi => by show (⟨_, _, _, _, _, _⟩ : LRow) = ⟨_, _, _, _, _, _⟩; rw [vset_ne _ _ hi, vset_ne _ _ hi, vset_ne _ _ hi]).symm
  have e2 : (⟨A, 38, 2, l.length, c, ntF l⟩ : LRow) = rowNt (vset NA s A) (vset NC s c) (vset nt s l) s := by
    show (⟨_, _, _, _, _, _⟩ : LRow) = ⟨_, _, _, _, _, _⟩
    rw [vset_at, vset_at, vset_at]
  rw [e, e2] at h
  have h2 := pullW_perm (X ++ [rowPl pb tb mb gn, rowNs gn (vset NA s A) (vset NC s c) (vset nt s l)]) _ _ _ R (fam_perm (rowNt (vset NA s A) (vset NC s c) (vset nt s l)) hs)
  simp only [List.append_assoc, List.cons_append, List.nil_append] at h2
  exact h.permL h2.symm
theorem gF_set (A : Option Addr) (c : Nat) (l : List (Nat × Str)) : gF (vset NA s A) (vset NC s c) (vset nt s l) s = .slice A l.length c ∧ ∀ i, i ≠ s → gF (vset NA s A) (vset NC s c) (vset nt s l) i = gF NA NC nt i := by
  refine ⟨?_, fun i hi => ?_⟩
  · show Value.slice _ _ _ = _
    rw [vset_at, vset_at, vset_at]
  · show Value.slice _ _ _ = Value.slice _ _ _
    rw [vset_ne _ _ hi, vset_ne _ _ hi, vset_ne _ _ hi]
theorem LayM.dropQ {L : List LRow} {q : MRow} (h : LayM w0 w L (q :: Q)) : LayM w0 w L Q :=
  ⟨h.lay, fun i q hi => h.map (i + 1) q hi, fun i j q r hij hi hj => h.ap (i + 1) (j + 1) q r (by omega) hi hj⟩
end
/-! the map of kinds -/
def κI (x : Int) : Value := .int .i64 x
theorem κI_inj (a b : Int) (h : κI a = κI b) : a = b := by
  unfold κI at h
  injection h
theorem keyedI : Keyed Tryd.prog 3 := int_keyed Tryd.underlying3
theorem zeroI (w : World) : (zeroValue 3).run Tryd.prog w = .ok (.int .i64 0) w := by kernel_rfl
def kindE (n : Nat) (f : Int → Value) : Array MapEntry → Nat → Prop := EMap Tryd.prog 3 (.int .i64 0) κI (fun _ => True) n f
theorem wfI {x : Int} (h1 : 0 ≤ x) (h2 : x < 1000) : (Lit.int .i64 x).wf = true := by
  simp [Lit.wf, IntKind.min, IntKind.max, IntKind.signed, IntKind.bits]
  omega
def kindF : Int → Value := fput (fput (fput (fun _ => .int .i64 0) 1 (.int .i64 1)) 2 (.int .i64 2)) 3 (.int .i64 3)
theorem kind_put {w0 w : World} {L : List LRow} {Q : List MRow} {b n : Nat} {f : Int → Value} (h : LayM w0 w L (⟨b, kindE n f⟩ :: Q)) (x : Int) (v : Value) (h1 : 0 ≤ x) (h2 : x < 1000) :
    ∃ w', (Instr.mapUpdate 93 (.map (some b)) (.int .i64 x) v).run Tryd.prog w = .ok () w' ∧ LayM w0 w' L (⟨b, kindE (n + 1) (fput f x v)⟩ :: Q) := by
  obtain ⟨es, c, hb, hE⟩ := h.mp 0 rfl
  obtain ⟨es', c', hrun, hE'⟩ := EMap.update hE hb keyedI Tryd.underlying93 κI_inj x trivial (keyOf_int_mk Tryd.underlying3 (wfI h1 h2)) v
  exact ⟨_, hrun, h.setM 0 rfl es' c' _ hE'⟩
theorem kind_maps {w0 w : World} {L : List LRow} {Q : List MRow} (h : LayM w0 w L Q) (b : Nat) (hb : b = w.heap.size) :
    ∃ w1 w2 w3, (Instr.mapUpdate 93 (.map (some b)) (.int .i64 1) (.int .i64 1)).run Tryd.prog (w.alloc (.map #[] 0)) = .ok () w1 ∧ (Instr.mapUpdate 93 (.map (some b)) (.int .i64 2) (.int .i64 2)).run Tryd.prog w1 = .ok () w2 ∧
      (Instr.mapUpdate 93 (.map (some b)) (.int .i64 3) (.int .i64 3)).run Tryd.prog w2 = .ok () w3 ∧ (∀ x : Int, 0 ≤ x → x < 1000 → (Instr.lookup 93 (.map (some b)) (.int .i64 x) false).run Tryd.prog w3 = .ok (kindF x) w3) ∧ LayM w0 w3 L Q := by
  have h0 := h.newM (kindE 0 (fun _ => .int .i64 0)) (EMap.empty _ _ _ _ _) b hb
  obtain ⟨w1, r1, h1⟩ := kind_put h0 1 (.int .i64 1) (by omega) (by omega)
  obtain ⟨w2, r2, h2⟩ := kind_put h1 2 (.int .i64 2) (by omega) (by omega)
  obtain ⟨w3, r3, h3⟩ := kind_put h2 3 (.int .i64 3) (by omega) (by omega)
  refine ⟨w1, w2, w3, r1, r2, r3, fun x hx1 hx2 => ?_, h3.dropQ⟩
  obtain ⟨es, c, hb, hE⟩ := h3.mp 0 rfl
  exact EMap.look hE hb keyedI Tryd.underlying93 (zeroI w3) x (keyOf_int_mk Tryd.underlying3 (wfI hx1 hx2))
end Go.Proofs.YtfdgjbanajodfaaDoor
