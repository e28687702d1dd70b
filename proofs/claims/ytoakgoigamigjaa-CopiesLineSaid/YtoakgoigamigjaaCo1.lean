/- The register's state in memory; the walks of above, fresh and reach. -/
import Derived.Test.YtoakgoigamigjaaCoMath
import Derived.Test.YtoakgoigamigjaaShr
import Derived.Test.YtoakgoigamigjaaHeld
set_option linter.unusedVariables false
set_option linter.unusedSimpArgs false
namespace Go.Proofs.Ytoakgoigamigjaa
open Go.RowKit

def clF (c : Cl) (k : Nat) : Value :=
  if k = 0 then .int .i64 (c.part : Nat) else if k = 1 then .int .i64 (c.beg : Nat) else if k = 2 then .bool c.wr else if k = 3 then .int .i64 c.val else if k = 4 then .int .u32 (c.rch : Nat) else if k = 5 then .int .i64 (c.many : Nat) else if k = 6 then .int .i64 (c.bs : Nat) else .int .i64 c.bv
def allF (gl n : Nat) (s : CS) (A : Option Addr) (m cap : Nat) (j : Nat) : Value :=
  if j = 0 then .slice (some ⟨gl, 0, none⟩) n n else if j = 1 then .int .u32 (s.fl : Nat) else if j < 50 then clF (s.cl ((j - 2) / 8)) ((j - 2) % 8) else .slice A m cap
def kpF (s : CS) (j : Nat) : Value := if j % 2 = 0 then .int .i64 (s.S (j / 2) : Nat) else .int .i64 (s.V (j / 2))
def opAt (l : List Opr) (q : Nat) : Opr := l.getD q ⟨0, 0, 0, false, 0⟩
def opG (l : List Opr) (j : Nat) : Value :=
  if j % 5 = 0 then .int .i64 ((opAt l (j / 5)).fr : Nat) else if j % 5 = 1 then .int .i64 ((opAt l (j / 5)).bg : Nat) else if j % 5 = 2 then .int .i64 ((opAt l (j / 5)).en : Nat) else if j % 5 = 3 then .bool (opAt l (j / 5)).wr else .int .i64 (opAt l (j / 5)).vl
abbrev hdK (g gl n : Nat) (s : CS) (A : Option Addr) (m cap : Nat) : LRow := blk g 51 51 (allF gl n s A m cap)
abbrev kpR (gl n : Nat) (s : CS) : LRow := ⟨some ⟨gl, 0, none⟩, 46, 2, n, n, kpF s⟩
abbrev rowsK (g gl n : Nat) (s : CS) (A : Option Addr) (cap : Nat) (R : List LRow) : List LRow := hdK g gl n s A s.ops.length cap :: kpR gl n s :: ⟨A, 36, 5, s.ops.length, cap, opG s.ops⟩ :: R
theorem allF_cl (gl n : Nat) (s : CS) (A : Option Addr) (m cap i k : Nat) (hi : i < 6) (hk : k < 8) : allF gl n s A m cap (2 + i * 8 + k) = clF (s.cl i) k := by
  have h1 : ¬ (2 + i * 8 + k = 0) := by omega
  have h2 : ¬ (2 + i * 8 + k = 1) := by omega
  have h3 : 2 + i * 8 + k < 50 := by omega
  have h4 : (2 + i * 8 + k - 2) / 8 = i := by omega
  have h5 : (2 + i * 8 + k - 2) % 8 = k := by omega
  unfold allF
  rw [if_neg h1, if_neg h2, if_pos h3, h4, h5]
section
variable {g gl n : Nat} {s : CS} {A : Option Addr} {cap m : Nat} {R L : List LRow} {w0 w : World}
theorem co_cl (h : Lay w0 w (hdK g gl n s A m cap :: L)) {i : Nat} (hi : i < 6) :
    w.cell? ⟨g, 2 + i * 8, none⟩ = some (.int .i64 ((s.cl i).part : Nat)) ∧ w.cell? ⟨g, 2 + i * 8 + 1, none⟩ = some (.int .i64 ((s.cl i).beg : Nat)) ∧ w.cell? ⟨g, 2 + i * 8 + 2, none⟩ = some (.bool (s.cl i).wr) ∧ w.cell? ⟨g, 2 + i * 8 + 3, none⟩ = some (.int .i64 (s.cl i).val) ∧
    w.cell? ⟨g, 2 + i * 8 + 4, none⟩ = some (.int .u32 ((s.cl i).rch : Nat)) ∧ w.cell? ⟨g, 2 + i * 8 + 5, none⟩ = some (.int .i64 ((s.cl i).many : Nat)) ∧ w.cell? ⟨g, 2 + i * 8 + 6, none⟩ = some (.int .i64 ((s.cl i).bs : Nat)) ∧ w.cell? ⟨g, 2 + i * 8 + 7, none⟩ = some (.int .i64 (s.cl i).bv) := by
  have key : ∀ k, k < 8 → w.cell? ⟨g, 2 + i * 8 + k, none⟩ = some (clF (s.cl i) k) := fun k hk => (h.cellB 0 rfl (2 + i * 8 + k) (by omega)).trans (by rw [allF_cl _ _ _ _ _ _ _ _ hi hk])
  exact ⟨key 0 (by omega), key 1 (by omega), key 2 (by omega), key 3 (by omega), key 4 (by omega), key 5 (by omega), key 6 (by omega), key 7 (by omega)⟩
theorem co_hd (h : Lay w0 w (hdK g gl n s A m cap :: L)) : w.cell? ⟨g, 0, none⟩ = some (.slice (some ⟨gl, 0, none⟩) n n) ∧ w.cell? ⟨g, 1, none⟩ = some (.int .u32 (s.fl : Nat)) ∧ w.cell? ⟨g, 50, none⟩ = some (.slice A m cap) :=
  ⟨h.cellB 0 rfl 0 (by omega), h.cellB 0 rfl 1 (by omega), h.cellB 0 rfl 50 (by omega)⟩
theorem co_kp (h : Lay w0 w (hdK g gl n s A m cap :: kpR gl n s :: L)) {t : Nat} (ht : t < n) : w.cell? ⟨gl, t * 2, none⟩ = some (.int .i64 (s.S t : Nat)) ∧ w.cell? ⟨gl, t * 2 + 1, none⟩ = some (.int .i64 (s.V t)) := by
  have h0 := h.cell 1 rfl (j := t * 2) (by omega)
  have h1 := h.cell 1 rfl (j := t * 2 + 1) (by omega)
  have e1 : t * 2 % 2 = 0 := by omega
  have e2 : t * 2 / 2 = t := by omega
  have e3 : (t * 2 + 1) % 2 = 1 := by omega
  have e4 : (t * 2 + 1) / 2 = t := by omega
  simp only [kpF, e1, e2, e3, e4, if_true] at h0 h1
  exact ⟨h0, h1⟩
/-- A client's field is set. -/
theorem co_fld {i : Nat} (k : Nat) (c' : Cl) (h : Lay w0 w (hdK g gl n s A m cap :: kpR gl n s :: L)) (hi : i < 6) (hk : k < 8) (hc : ∀ k', k' < 8 → k' ≠ k → clF c' k' = clF (s.cl i) k') :
    Lay w0 (w.setCell ⟨g, 2 + i * 8 + k, none⟩ (clF c' k)) (hdK g gl n (setC s i c') A m cap :: kpR gl n (setC s i c') :: L) := by
  refine h.set 0 (allF gl n (setC s i c') A m cap) rfl (by omega) (by rw [allF_cl _ _ _ _ _ _ _ _ hi hk, setC_self]) (fun j hj hne => ?_)
  unfold allF
  by_cases h1 : j = 0
  · rw [if_pos h1, if_pos h1]
  rw [if_neg h1, if_neg h1]
  by_cases h2 : j = 1
  · rw [if_pos h2, if_pos h2]; rfl
  rw [if_neg h2, if_neg h2]
  by_cases h3 : j < 50
  · rw [if_pos h3, if_pos h3, setC_cl]
    by_cases h4 : (j - 2) / 8 = i
    · rw [if_pos h4, h4]
      exact hc _ (by omega) (by omega)
    · rw [if_neg h4]
  · rw [if_neg h3, if_neg h3]
theorem kpF_S (s : CS) (t x : Nat) (j : Nat) : kpF { s with S := upd s.S t x } j = if j = t * 2 then .int .i64 (x : Nat) else kpF s j := by
  unfold kpF
  by_cases e : j = t * 2
  · have h1 : j % 2 = 0 := by omega
    have h2 : j / 2 = t := by omega
    simp [e, upd_same]
  · rw [if_neg e]
    by_cases h1 : j % 2 = 0
    · have h2 : j / 2 ≠ t := by omega
      rw [if_pos h1, if_pos h1]
      show Value.int .i64 ((upd s.S t x (j / 2) : Nat) : Int) = _
      rw [upd_ne _ _ h2]
    · rw [if_neg h1, if_neg h1]
theorem kpF_V (s : CS) (t : Nat) (x : Int) (j : Nat) : kpF { s with V := upd s.V t x } j = if j = t * 2 + 1 then .int .i64 x else kpF s j := by
  unfold kpF
  by_cases e : j = t * 2 + 1
  · have h1 : ¬ (j % 2 = 0) := by omega
    have h2 : j / 2 = t := by omega
    rw [if_pos e, if_neg h1, h2]
    show Value.int .i64 (upd s.V t x t) = _
    rw [upd_same]
  · rw [if_neg e]
    by_cases h1 : j % 2 = 0
    · rw [if_pos h1, if_pos h1]
    · have h2 : j / 2 ≠ t := by omega
      rw [if_neg h1, if_neg h1]
      show Value.int .i64 (upd s.V t x (j / 2)) = _
      rw [upd_ne _ _ h2]
theorem co_S {t : Nat} (x : Nat) (h : Lay w0 w (hdK g gl n s A m cap :: kpR gl n s :: L)) (ht : t < n) :
    Lay w0 (w.setCell ⟨gl, t * 2, none⟩ (.int .i64 (x : Nat))) (hdK g gl n { s with S := upd s.S t x } A m cap :: kpR gl n { s with S := upd s.S t x } :: L) :=
  h.set 1 (kpF { s with S := upd s.S t x }) rfl (by omega) (by rw [kpF_S, if_pos rfl]) (fun j _ hne => by rw [kpF_S, if_neg hne])
theorem co_V {t : Nat} (x : Int) (h : Lay w0 w (hdK g gl n s A m cap :: kpR gl n s :: L)) (ht : t < n) :
    Lay w0 (w.setCell ⟨gl, t * 2 + 1, none⟩ (.int .i64 x)) (hdK g gl n { s with V := upd s.V t x } A m cap :: kpR gl n { s with V := upd s.V t x } :: L) :=
  h.set 1 (kpF { s with V := upd s.V t x }) rfl (by omega) (by rw [kpF_V, if_pos rfl]) (fun j _ hne => by rw [kpF_V, if_neg hne])
theorem co_fl (x : Nat) (h : Lay w0 w (hdK g gl n s A m cap :: kpR gl n s :: L)) :
    Lay w0 (w.setCell ⟨g, 1, none⟩ (.int .u32 (x : Nat))) (hdK g gl n { s with fl := x } A m cap :: kpR gl n { s with fl := x } :: L) :=
  h.set 0 (allF gl n { s with fl := x } A m cap) rfl (by omega) rfl (fun j _ hne => by unfold allF; rw [if_neg hne, if_neg hne])
theorem co_ops (A' : Option Addr) (m' cap' : Nat) (h : Lay w0 w (hdK g gl n s A m cap :: kpR gl n s :: L)) :
    Lay w0 (w.setCell ⟨g, 50, none⟩ (.slice A' m' cap')) (hdK g gl n s A' m' cap' :: kpR gl n s :: L) :=
  h.set 0 (allF gl n s A' m' cap') rfl (by omega) rfl (fun j hj hne => by
    unfold allF
    by_cases h1 : j = 0
    · rw [if_pos h1, if_pos h1]
    rw [if_neg h1, if_neg h1]
    by_cases h2 : j = 1
    · rw [if_pos h2, if_pos h2]
    rw [if_neg h2, if_neg h2, if_pos (by omega), if_pos (by omega)])
end
theorem above_any (s i : Nat) (w : World) (hi : i < 6) (hs : s ≤ 1000) : Calls Try.prog 21 #[.int .i64 s, .int .i64 i] w fun e w' => e = .returned (.int .i64 (abv s i : Nat)) ∧ w = w' := by
  obtain ⟨q, hq⟩ : ∃ q : Nat, ((s : Int) % 6) = (q : Int) ∧ q = s % 6 := ⟨s % 6, by omega, rfl⟩
  obtain ⟨hq1, hq2⟩ := hq
  have hqs : q ≤ s := by omega
  have hq6 : q < 6 := by omega
  by_cases h : s - q + i ≤ s
  · have HA : Hid (abv s i = s - q + i + 6) := by show abv s i = _; unfold abv; rw [← hq2, if_pos h]
    have h2 : (s : Int) - q + i ≤ s := by omega
    clear hq2 h
    go_enter Try.func21, Try.ntmps21
    go_wp2
    go_ret
    exact ⟨ret_int (by rw [HA.out]; omega), rfl⟩
  · have HA : Hid (abv s i = s - q + i) := by show abv s i = _; unfold abv; rw [← hq2, if_neg h]
    have h2 : (s : Int) < (s : Int) - q + i := by omega
    clear hq2 h
    go_enter Try.func21, Try.ntmps21
    go_wp2
    go_ret
    exact ⟨ret_int (by rw [HA.out]; omega), rfl⟩
end Go.Proofs.Ytoakgoigamigjaa
