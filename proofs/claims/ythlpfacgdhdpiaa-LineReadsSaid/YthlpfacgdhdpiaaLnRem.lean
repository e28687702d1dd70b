/- Without one read: an order is left; what the law LineReads asks. -/
import Derived.Test.YthlpfacgdhdpiaaLnArg
set_option linter.unusedVariables false
set_option linter.unusedSimpArgs false
namespace Go.Proofs.Ythlpfacgdhdpiaa
open Go.RowKit

def skp (i j : Nat) : Nat := if j < i then j else j + 1
def sgm (i j : Nat) : Nat := if j < i then j else j - 1
theorem skp_sgm {i j : Nat} (h : j ≠ i) : skp i (sgm i j) = j := by
  unfold skp sgm
  by_cases h1 : j < i
  · rw [if_pos h1, if_pos h1]
  · rw [if_neg h1, if_neg (by omega)]; omega
theorem sgm_skp (i j : Nat) : sgm i (skp i j) = j := by
  unfold skp sgm
  by_cases h1 : j < i
  · rw [if_pos h1, if_pos h1]
  · rw [if_neg h1, if_neg (by omega)]; omega
theorem skp_ne (i j : Nat) : skp i j ≠ i := by unfold skp; split <;> omega
theorem skp_inj {i a b : Nat} (h : skp i a = skp i b) : a = b := by have := congrArg (sgm i) h; rwa [sgm_skp, sgm_skp] at this
theorem skp_lt {i j n : Nat} (hi : i < n) (hj : j < n - 1) : skp i j < n := by unfold skp; split <;> omega
theorem sgm_lt {i j n : Nat} (hi : i < n) (hj : j < n) (hne : j ≠ i) : sgm i j < n - 1 := by unfold sgm; split <;> omega
def remO (o : Opl) (i : Nat) : Opl := ⟨o.n - 1, fun j => o.fr (skp i j), fun j => o.bg (skp i j), fun j => o.en (skp i j), fun j => o.wr (skp i j), fun j => o.vl (skp i j)⟩
theorem rem_ok {o : Opl} (h : o.Ok) {i : Nat} (hi : i < o.n) : (remO o i).Ok :=
  ⟨by have := h.n8; show o.n - 1 ≤ 8; omega, fun j hj => h.be _ (skp_lt hi hj), fun a b ha hb hne hf => h.ap _ _ (skp_lt hi ha) (skp_lt hi hb) (fun e => hne (skp_inj e)) hf⟩
theorem rem_leg {o : Opl} {i : Nat} (hr : o.wr i = false) : ∀ {l : List Nat} {last last' : Int}, Leg o last l → nowV o last = nowV (remO o i) last' → Leg (remO o i) last' ((l.filter fun j => decide (j ≠ i)).map (sgm i))
  | [], _, _, _, _ => trivial
  | j :: l, last, last', h, hv => by
    have hnx := nowV_next (o := o) (last := last) (i := j)
    by_cases e : j = i
    · subst e
      rw [hr] at hnx
      rw [List.filter_cons_of_neg (by simp)]
      exact rem_leg hr h.2 (hnx.trans hv)
    · rw [List.filter_cons_of_pos (by simpa using e), List.map_cons]
      have e1 : (remO o i).wr (sgm i j) = o.wr j := by show o.wr (skp i (sgm i j)) = _; rw [skp_sgm e]
      have e2 : (remO o i).vl (sgm i j) = o.vl j := by show o.vl (skp i (sgm i j)) = _; rw [skp_sgm e]
      refine ⟨by rw [e1, e2, ← hv]; exact h.1, rem_leg hr h.2 ?_⟩
      rw [hnx, nowV_next, e1, e2, hv]
theorem rem_fin {o : Opl} (h : o.Ok) {i : Nat} (hi : i < o.n) (hr : o.wr i = false) (hf : Fin o (lineB o) 0 (-1)) : Fin (remO o i) (lineB (remO o i)) 0 (-1) := by
  obtain ⟨l, hl⟩ := hf
  have ho := run_ord (Nat.two_pow_pos _) hl
  have hm : ∀ j, j ∈ (l.filter fun j => decide (j ≠ i)) ↔ j < o.n ∧ j ≠ i := by
    intro j
    rw [List.mem_filter, ho.mem]; simp
  have hB : ∀ a b, a ≠ i → b ≠ i → lineB (remO o i) (sgm i b) (sgm i a) = lineB o b a := by
    intro a b ha hb
    unfold lineB remO
    simp only [skp_sgm ha, skp_sgm hb]
  refine ⟨_, ord_run (lineB_self (rem_ok h hi)) (Nat.two_pow_pos _) ⟨?_, fun j => ?_, ?_, rem_leg hr ho.leg rfl⟩⟩
  · refine List.pairwise_map.2 ((ho.nd.filter _).imp_of_mem fun {a b} ha hb hne he => ?_)
    have ha := ((hm a).1 ha).2
    have hb := ((hm b).1 hb).2
    have := congrArg (skp i) he
    rw [skp_sgm ha, skp_sgm hb] at this
    exact hne this
  · rw [List.mem_map]
    constructor
    · rintro ⟨a, ha, rfl⟩
      have := (hm a).1 ha
      exact ⟨sgm_lt hi this.1 this.2, by simp⟩
    · rintro ⟨hj, _⟩
      exact ⟨skp i j, (hm _).2 ⟨skp_lt hi hj, skp_ne i j⟩, sgm_skp i j⟩
  · refine List.pairwise_map.2 ((ho.pw.filter _).imp_of_mem fun {a b} ha hb hne => ?_)
    rw [hB a b ((hm a).1 ha).2 ((hm b).1 hb).2]; exact hne
theorem rem_low (o : Opl) (i : Nat) {j : Nat} (h : j < i * 5) : opF (remO o i) j = opF o j := by
  have : skp i (j / 5) = j / 5 := if_pos (by omega)
  unfold opF remO
  simp only [this]
theorem rem_high (o : Opl) (i j : Nat) : opF (remO o i) (i * 5 + j) = opF o ((i + 1) * 5 + j) := by
  have h1 : (i * 5 + j) / 5 = i + j / 5 := by omega
  have h2 : ((i + 1) * 5 + j) / 5 = i + j / 5 + 1 := by omega
  have h3 : (i * 5 + j) % 5 = j % 5 := by omega
  have h4 : ((i + 1) * 5 + j) % 5 = j % 5 := by omega
  have : skp i (i + j / 5) = i + j / 5 + 1 := if_neg (by omega)
  unfold opF remO
  simp only [h1, h2, h3, h4, this]
/-- Was it written, or is it 0? Behind the first t. -/
def srcB (o : Opl) (x j : Nat) : Bool := o.wr j && (o.vl j == o.vl x && decide (o.bg j ≤ o.en x))
def okB (o : Opl) (x t : Nat) : Bool := (o.wr x || o.vl x == 0) || anyTo (srcB o x) t
theorem okB_0 (o : Opl) (x : Nat) : okB o x 0 = (o.wr x || o.vl x == 0) := by simp [okB, anyTo]
theorem okB_true {o : Opl} {x t : Nat} (h : okB o x t = true) : okB o x (t + 1) = true := by
  unfold okB at h ⊢
  rw [Bool.or_eq_true] at h ⊢
  rcases h with h | h
  · exact .inl h
  · refine .inr ?_
    show (anyTo (srcB o x) t || srcB o x t) = true
    rw [h]; rfl
theorem okB_false {o : Opl} {x t : Nat} (h : okB o x t = false) : okB o x (t + 1) = srcB o x t := by
  unfold okB at h ⊢
  rw [Bool.or_eq_false_iff] at h
  rw [h.1]
  show (false || (anyTo (srcB o x) t || srcB o x t)) = _
  rw [h.2]; rfl
theorem Good.ok {o : Opl} {l : List Nat} (h : Good o l) {x : Nat} (hx : x < o.n) : okB o x o.n = true := by
  unfold okB
  cases hw : o.wr x
  · by_cases h0 : o.vl x = 0
    · simp [h0]
    · obtain ⟨j, h1, h2, h3, h4⟩ := h.source hx hw h0
      have : anyTo (srcB o x) o.n = true := anyTo_iff.2 ⟨j, h1, by simp [srcB, h2, h3, h4]⟩
      rw [this]; simp
  · simp
end Go.Proofs.Ythlpfacgdhdpiaa
