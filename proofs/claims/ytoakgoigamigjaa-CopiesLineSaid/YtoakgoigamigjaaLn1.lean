/- Operations in memory; the walks of the two checks, of ended, same and Line$1. -/
import Derived.Test.YtoakgoigamigjaaLnMath
import Derived.Test.YtoakgoigamigjaaText
set_option linter.unusedVariables false
set_option linter.unusedSimpArgs false
namespace Go.Proofs.Ytoakgoigamigjaa
open Go.RowKit

def opL (o : Opl) (i : Nat) : List Value := [.int .i64 (o.fr i), .int .i64 (o.bg i), .int .i64 (o.en i), .bool (o.wr i), .int .i64 (o.vl i)]
def opF (o : Opl) (j : Nat) : Value := if j % 5 = 0 then .int .i64 (o.fr (j / 5)) else if j % 5 = 1 then .int .i64 (o.bg (j / 5)) else if j % 5 = 2 then .int .i64 (o.en (j / 5)) else if j % 5 = 3 then .bool (o.wr (j / 5)) else .int .i64 (o.vl (j / 5))
abbrev opV (o : Opl) (i : Nat) : Value := .agg #[.int .i64 (o.fr i), .int .i64 (o.bg i), .int .i64 (o.en i), .bool (o.wr i), .int .i64 (o.vl i)]
theorem opF_0 (o : Opl) (i : Nat) : opF o (i * 5) = .int .i64 (o.fr i) := by
  have h1 : (i * 5) % 5 = 0 := by omega
  have h2 : (i * 5) / 5 = i := by omega
  simp [opF, h1, h2]
theorem opF_1 (o : Opl) (i : Nat) : opF o (i * 5 + 1) = .int .i64 (o.bg i) := by
  have h1 : (i * 5 + 1) % 5 = 1 := by omega
  have h2 : (i * 5 + 1) / 5 = i := by omega
  simp [opF, h1, h2]
theorem opF_2 (o : Opl) (i : Nat) : opF o (i * 5 + 2) = .int .i64 (o.en i) := by
  have h1 : (i * 5 + 2) % 5 = 2 := by omega
  have h2 : (i * 5 + 2) / 5 = i := by omega
  simp [opF, h1, h2]
theorem opF_3 (o : Opl) (i : Nat) : opF o (i * 5 + 3) = .bool (o.wr i) := by
  have h1 : (i * 5 + 3) % 5 = 3 := by omega
  have h2 : (i * 5 + 3) / 5 = i := by omega
  simp [opF, h1, h2]
theorem opF_4 (o : Opl) (i : Nat) : opF o (i * 5 + 4) = .int .i64 (o.vl i) := by
  have h1 : (i * 5 + 4) % 5 = 4 := by omega
  have h2 : (i * 5 + 4) / 5 = i := by omega
  simp [opF, h1, h2]
/-- The operations, in every world that is as w below. -/
def OpsIn (w : World) (A : Option Addr) (o : Opl) : Prop := ∀ W, Below w.heap.size w W → ∀ i, i < o.n → ∃ ad, A = some ad ∧ W.cell? (ad.add (i * 5)) = some (.int .i64 (o.fr i)) ∧ W.cell? ⟨(ad.add (i * 5)).block, (ad.add (i * 5)).off + 1, none⟩ = some (.int .i64 (o.bg i)) ∧
  W.cell? ⟨(ad.add (i * 5)).block, (ad.add (i * 5)).off + 2, none⟩ = some (.int .i64 (o.en i)) ∧ W.cell? ⟨(ad.add (i * 5)).block, (ad.add (i * 5)).off + 3, none⟩ = some (.bool (o.wr i)) ∧ W.cell? ⟨(ad.add (i * 5)).block, (ad.add (i * 5)).off + 4, none⟩ = some (.int .i64 (o.vl i))
theorem ops_in {w : World} {B : Nat} {A : Option Addr} {o : Opl} (hB : B ≤ w.heap.size) (hr : Rd w B A (o.n * 5) (opF o)) : OpsIn w A o := by
  intro W hb i hi
  obtain ⟨ad, e, _, hc⟩ := ((hr.more hB).below hb) (by omega)
  have h0 := hc (i * 5) (by omega)
  have h1 := hc (i * 5 + 1) (by omega)
  have h2 := hc (i * 5 + 2) (by omega)
  have h3 := hc (i * 5 + 3) (by omega)
  have h4 := hc (i * 5 + 4) (by omega)
  rw [← addr_add] at h1 h2 h3 h4
  rw [opF_0] at h0
  rw [opF_1] at h1
  rw [opF_2] at h2
  rw [opF_3] at h3
  rw [opF_4] at h4
  exact ⟨ad, e, h0, h1, h2, h3, h4⟩
theorem OpsIn.below {w w' : World} {A : Option Addr} {o : Opl} (h : OpsIn w A o) (hb : Below w.heap.size w w') : OpsIn w' A o := fun W h2 i hi => h W (hb.trans (h2.mono hb.size)) i hi

def lcE (o : Opl) (i : Nat) : Bool := decide (o.en i ≤ o.bg i)
def lcP (o : Opl) (i j : Nat) : Bool := o.fr i == o.fr j && (decide (o.bg j < o.en i) && decide (o.bg i < o.en j))
theorem lcP_comm (o : Opl) (i j : Nat) : lcP o i j = lcP o j i := by
  unfold lcP
  have : (o.fr i == o.fr j) = (o.fr j == o.fr i) := Bool.eq_iff_iff.2 (by rw [beq_iff_eq, beq_iff_eq]; exact eq_comm)
  rw [this, Bool.and_comm (decide (o.bg j < o.en i))]
def lCode (o : Opl) : Int := if 8 < o.n then 1 else if anyTo (lcE o) o.n then 4 else if anyTo (fun i => anyTo (lcP o i) i) o.n then 3 else 0
section
variable {o : Opl}
theorem lCode_n (h : 8 < o.n) : lCode o = 1 := if_pos h
theorem lCode_E (h : o.n ≤ 8) {i : Nat} (hi : i < o.n) (he : lcE o i = true) : lCode o = 4 := by
  rw [lCode, if_neg (by omega), if_pos (anyTo_iff.2 ⟨i, hi, he⟩)]
theorem lCode_P (h : o.n ≤ 8) (hE : ∀ i, i < o.n → lcE o i = false) {i j : Nat} (hi : i < o.n) (hj : j < o.n) (hne : i ≠ j) (hp : lcP o i j = true) : lCode o = 3 := by
  rw [lCode, if_neg (by omega), if_neg (by rw [anyTo_no.2 hE]; simp), if_pos]
  rcases Nat.lt_or_gt_of_ne hne with h1 | h1
  · exact anyTo_iff.2 ⟨j, hj, anyTo_iff.2 ⟨i, h1, by rw [lcP_comm]; exact hp⟩⟩
  · exact anyTo_iff.2 ⟨i, hi, anyTo_iff.2 ⟨j, h1, hp⟩⟩
theorem lCode_0 (h : o.n ≤ 8) (hE : ∀ i, i < o.n → lcE o i = false) (hP : ∀ i, i < o.n → (fun i => anyTo (lcP o i) i) i = false) : lCode o = 0 := by
  rw [lCode, if_neg (by omega), if_neg (by rw [anyTo_no.2 hE]; simp), if_neg (by rw [anyTo_no.2 hP]; simp)]
theorem lCode_ok (h : lCode o = 0) : o.Ok := by
  unfold lCode at h
  split at h
  case isTrue => cases h
  rename_i h1
  split at h
  case isTrue => cases h
  rename_i h2
  split at h
  case isTrue => cases h
  rename_i h3
  rw [Bool.not_eq_true, anyTo_no] at h2 h3
  have key : ∀ i j, i < o.n → j < i → lcP o i j = false := fun i j hi hj => anyTo_no.1 (h3 i hi) j hj
  refine ⟨by omega, fun i hi => ?_, fun i j hi hj hne hf => ?_⟩
  · have := h2 i hi; simp only [lcE, decide_eq_false_iff_not] at this; omega
  · have h4 : lcP o i j = false := by
      rcases Nat.lt_or_gt_of_ne hne with h5 | h5
      · rw [lcP_comm]; exact key j i hj h5
      · exact key i j hi h5
    rintro ⟨h5, h6⟩
    unfold lcP at h4
    simp [hf, h5, h6] at h4
theorem ok_code (h : o.Ok) : lCode o = 0 := by
  refine lCode_0 h.n8 (fun i hi => ?_) (fun i hi => anyTo_no.2 fun j hj => ?_)
  · have := h.be i hi; exact decide_eq_false (by omega)
  · have hj2 : j < o.n := Nat.lt_trans hj hi
    have := h.ap i j hi hj2 (by omega)
    unfold lcP
    cases hf : (o.fr i == o.fr j)
    · rfl
    · rw [beq_iff_eq] at hf
      have h2 := this hf
      by_cases h3 : o.bg j < o.en i
      · simp [h3]; have := fun h4 => h2 ⟨h3, h4⟩; omega
      · simp [h3]
end
theorem snoc_all {P : Nat → Bool} {k : Nat} (h : ∀ j, j < k → P j = false) (hk : P k = false) : ∀ j, j < k + 1 → P j = false := fun j hj => (Nat.lt_succ_iff_lt_or_eq.1 hj).elim (h j) (fun e => by subst e; exact hk)

set_option maxRecDepth 100000 in
set_option maxHeartbeats 1600000 in
theorem lcheck_any (o : Opl) (A : Option Addr) (cap : Nat) (w : World) (hn : o.n ≤ cap ∧ cap ≤ maxLen) (ho : OpsIn w A o) :
    Calls Try.prog 13 #[.slice A o.n cap] w fun e w' => e = .returned (.int .i64 (lCode o)) ∧ Below w.heap.size w w' := by
  obtain ⟨hnc, hcm⟩ := hn
  unfold maxLen at hcm
  have HO := Lib.hid ho; clear ho
  by_cases hs : o.n ≤ 8
  case neg =>
    have HK := Lib.hid (lCode_n (o := o) (by omega))
    have hs : 8 < o.n := by omega
    go_enter Try.func13, Try.ntmps13
    go_wp2
    go_ret
    exact ⟨ret_int HK.out.symm, Below.refl _ _⟩
  obtain ⟨nn, hnn⟩ : ∃ nn, o.n = nn := ⟨_, rfl⟩
  have HNN := Lib.hid hnn
  rw [hnn] at hs hnc ⊢
  clear hnn
  go_enter Try.func13, Try.ntmps13
  go_wp2
  go_loopw [14] (fun i wr => ∃ j : Nat, j ≤ nn ∧ i = .int .i64 j ∧ Hid (∀ t, t < j → lcE o t = false) ∧ Hid (Lay w wr [])) (fun i _ => nn - (intOf i).toNat)
  case atStart => exact ⟨0, by omega, rfl, fun j hj => absurd hj (by omega), Lay.nil w⟩
  case round =>
    obtain ⟨j, hj, rfl, HA, HL⟩ := hrel
    by_cases hlt : j < nn
    · have hlt2 : j < o.n := by rw [HNN.out]; exact hlt
      obtain ⟨ad, rfl, c0, c1, c2, c3, c4⟩ := HO.out wr HL.out.bel j (by assumption)
      have HL1 : Hid (∀ ob, Lay w (wr.alloc ob) []) := fun ob => HL.out.alloc ob
      by_cases he : o.en j ≤ o.bg j
      · have HK := Lib.hid (lCode_E (by rw [HNN.out]; exact hs) hlt2 (decide_eq_true he))
        go_wp2
        go_ret
        exact ⟨ret_int HK.out.symm, (HL1.out _).bel⟩
      · have HQ : Hid (lcE o j = false) := decide_eq_false he
        have he : o.bg j < o.en j := by omega
        go_wp2
        go_roundw
        case rel => exact ⟨j + 1, by omega, by go_num, snoc_all HA.out HQ.out, HL1.out _⟩
        case measure => simp [intOf]; omega
    · obtain rfl : j = nn := by omega
      go_wp2
      go_loopw [26] (fun i wr => ∃ k : Nat, k ≤ j ∧ i = .int .i64 k ∧ Hid (∀ t, t < k → (fun i => anyTo (lcP o i) i) t = false) ∧ Hid (Lay w wr [])) (fun i _ => j - (intOf i).toNat)
      case atStart => exact ⟨0, by omega, rfl, fun j hj => absurd hj (by omega), HL.out⟩
      case round =>
        clear HL
        obtain ⟨l, hl, rfl, HP, HL⟩ := hrel
        by_cases hlt : l < j
        · have hlt2 : l < o.n := by rw [HNN.out]; exact hlt
          obtain ⟨ad, rfl, c0, c1, c2, c3, c4⟩ := HO.out wr HL.out.bel l (by assumption)
          have HL1 : Hid (Lay w (wr.alloc (.cells #[.int .i64 (o.fr l), .int .i64 (o.bg l), .int .i64 (o.en l), .bool (o.wr l), .int .i64 (o.vl l)] 36)) [blk wr.heap.size 36 5 (ofL (opL o l))]) := HL.out.newB (opL o l) _ 5 rfl _ rfl
          go_wp2
          clear c0 c1 c2 c3 c4
          generalize wr.heap.size = ba at HL1 ⊢
          go_loopw [35] (fun i wr => ∃ t : Nat, t ≤ l ∧ i = .int .i64 t ∧ Hid (∀ x, x < t → x ≠ l → lcP o l x = false) ∧ Hid (Lay w wr [blk ba 36 5 (ofL (opL o l))])) (fun i _ => l - (intOf i).toNat)
          case atStart => exact ⟨0, by omega, rfl, fun j hj => absurd hj (by omega), HL1.out⟩
          case round =>
            clear HL HL1
            obtain ⟨t, ht, rfl, HX, HL⟩ := hrel
            by_cases hltt : t < l
            · have hlt3 : t < o.n := by rw [HNN.out]; omega
              obtain ⟨ad2, e2, d0, d1, d2, d3, d4⟩ := HO.out wr HL.out.bel t hlt3
              injection e2 with e2
              subst e2
              have b0 := HL.out.cellB 0 rfl 0 (by omega)
              have b1 := HL.out.cellB 0 rfl 1 (by omega)
              have b2 := HL.out.cellB 0 rfl 2 (by omega)
              have hba := (HL.out.at_ 0 rfl).2
              simp only [opL, ofL_0, ofL_1, ofL_2] at b0 b1 b2
              have HL1 : Hid (∀ ob, Lay w (wr.alloc ob) [blk ba 36 5 (ofL (opL o l))]) := fun ob => HL.out.alloc ob
              cases hp : lcP o l t
              · have HN : Hid (∀ x, x < t + 1 → x ≠ l → lcP o l x = false) := fun x hx hne => (Nat.lt_succ_iff_lt_or_eq.1 hx).elim (fun h => HX.out x h hne) (fun e => by subst e; exact hp)
                unfold lcP at hp
                rw [Bool.and_eq_false_iff, Bool.and_eq_false_iff] at hp
                rcases hp with hp | hp | hp
                · go_wp2
                  go_roundw
                  case rel => exact ⟨t + 1, by omega, by go_num, HN.out, HL1.out _⟩
                  case measure => simp [intOf]; omega
                · obtain ⟨f, hf⟩ : ∃ f, (o.fr l == o.fr t) = f := ⟨_, rfl⟩
                  have hp : o.en l ≤ o.bg t := by have := of_decide_eq_false hp; omega
                  cases f
                  all_goals
                    go_wp2
                    go_roundw
                    case rel => exact ⟨t + 1, by omega, by go_num, HN.out, HL1.out _⟩
                    case measure => simp [intOf]; omega
                · obtain ⟨f, hf⟩ : ∃ f, (o.fr l == o.fr t) = f := ⟨_, rfl⟩
                  have hp : o.en t ≤ o.bg l := by have := of_decide_eq_false hp; omega
                  by_cases hq : o.en l ≤ o.bg t
                  · cases f
                    all_goals
                      go_wp2
                      go_roundw
                      case rel => exact ⟨t + 1, by omega, by go_num, HN.out, HL1.out _⟩
                      case measure => simp [intOf]; omega
                  · have hq : o.bg t < o.en l := by omega
                    cases f
                    all_goals
                      go_wp2
                      go_roundw
                      case rel => exact ⟨t + 1, by omega, by go_num, HN.out, HL1.out _⟩
                      case measure => simp [intOf]; omega
              · have HNE : l ≠ t := by omega
                have HK := Lib.hid (lCode_P (by rw [HNN.out]; exact hs) (by rw [HNN.out]; exact HA.out) hlt2 hlt3 HNE hp)
                unfold lcP at hp
                rw [Bool.and_eq_true, Bool.and_eq_true] at hp
                obtain ⟨e1, e2, e3⟩ := hp
                have e2 : o.bg t < o.en l := of_decide_eq_true e2
                have e3 : o.bg l < o.en t := of_decide_eq_true e3
                go_wp2
                go_ret
                exact ⟨ret_int HK.out.symm, (HL1.out _).bel⟩
            · obtain rfl : t = l := by omega
              have HQ : Hid (anyTo (lcP o t) t = false) := anyTo_no.2 fun x hx => HX.out x hx (by omega)
              go_wp2
              go_roundw
              case rel => exact ⟨t + 1, by omega, by go_num, snoc_all HP.out HQ.out, HL.out.tail⟩
              case measure => simp [intOf]; omega
        · obtain rfl : l = j := by omega
          have HK := Lib.hid (lCode_0 (by rw [HNN.out]; exact hs) (by rw [HNN.out]; exact HA.out) (by rw [HNN.out]; exact HP.out))
          go_wp2
          go_ret
          exact ⟨ret_int HK.out.symm, HL.out.bel⟩

theorem ended_any (o : Opl) (i j : Nat) (b : Bool) (w : World) (hb : decide (o.en i < o.bg j) = b) :
    Calls Try.prog 16 #[opV o i, opV o j] w fun e w' => e = .returned (.bool b) ∧ Below w.heap.size w w' := by
  go_enter Try.func16, Try.ntmps16
  go_wp2
  go_ret
  exact ⟨rfl, ((Below.refl _ _).alloc (Nat.le_refl _) _).alloc (by simp) _⟩
theorem same_any (o : Opl) (i j : Nat) (w : World) :
    Calls Try.prog 17 #[opV o i, opV o j] w fun e w' => e = .returned (.bool (sameB o i j)) ∧ Below w.heap.size w w' := by
  obtain ⟨r, hr⟩ : ∃ r, r = sameB o i j := ⟨_, rfl⟩
  rw [← hr]
  unfold sameB at hr
  have HR := Lib.hid hr; clear hr
  obtain ⟨b, hb⟩ : ∃ b, (o.fr i == o.fr j) = b := ⟨_, rfl⟩
  rw [hb] at HR
  cases b
  · have HR : Hid (r = false) := HR.out
    go_enter Try.func17, Try.ntmps17
    go_wp2
    go_ret
    exact ⟨ret_bool HR.out.symm, ((Below.refl _ _).alloc (Nat.le_refl _) _).alloc (by simp) _⟩
  · have HR : Hid (r = decide (o.bg i < o.bg j)) := HR.out.trans (Bool.true_and _)
    go_enter Try.func17, Try.ntmps17
    go_wp2
    go_ret
    exact ⟨ret_bool HR.out.symm, ((Below.refl _ _).alloc (Nat.le_refl _) _).alloc (by simp) _⟩
theorem lineC_any (o : Opl) (i j : Nat) (w : World) :
    Calls Try.prog 15 #[opV o i, opV o j] w fun e w' => e = .returned (.bool (lineB o i j)) ∧ Below w.heap.size w w' := by
  obtain ⟨r, hr⟩ : ∃ r, r = lineB o i j := ⟨_, rfl⟩
  rw [← hr]
  unfold lineB at hr
  have HR := Lib.hid hr; clear hr
  obtain ⟨b, hb⟩ : ∃ b, decide (o.en i < o.bg j) = b := ⟨_, rfl⟩
  have HB := Lib.hid hb
  rw [hb] at HR
  clear hb
  have HS := Lib.hid (same_any o i j)
  cases b
  · have HR : Hid (r = sameB o i j) := HR.out
    go_enter Try.func15, Try.ntmps15
    go_wp2_with fail
    refine (ended_any o i j false _ HB.out).mono ?_
    rintro e w1 ⟨rfl, hw1⟩
    have HL := Lib.hid (((((Lay.nil w).newB (opL o i) 36 5 rfl w.heap.size rfl).newB (opL o j) 36 5 rfl (w.heap.size + 1) (size_push _ _).symm)).keep hw1)
    clear hw1
    have a0 := HL.out.cellB 1 rfl 0 (by omega)
    have a1 := HL.out.cellB 1 rfl 1 (by omega)
    have a2 := HL.out.cellB 1 rfl 2 (by omega)
    have a3 := HL.out.cellB 1 rfl 3 (by omega)
    have a4 := HL.out.cellB 1 rfl 4 (by omega)
    have b0 := HL.out.cellB 0 rfl 0 (by omega)
    have b1 := HL.out.cellB 0 rfl 1 (by omega)
    have b2 := HL.out.cellB 0 rfl 2 (by omega)
    have b3 := HL.out.cellB 0 rfl 3 (by omega)
    have b4 := HL.out.cellB 0 rfl 4 (by omega)
    simp only [opL, ofL_0, ofL_1, ofL_2, ofL_3, ofL_4] at a0 a1 a2 a3 a4 b0 b1 b2 b3 b4
    go_wp2_with fail
    refine (HS.out _).mono ?_
    rintro e w2 ⟨rfl, hw2⟩
    have HW2 := Lib.hid (HL.out.keep hw2).bel; clear hw2
    go_wp2
    go_ret
    exact ⟨ret_bool HR.out.symm, HW2.out⟩
  · have HR : Hid (r = true) := HR.out.trans (Bool.true_or _)
    go_enter Try.func15, Try.ntmps15
    go_wp2_with fail
    refine (ended_any o i j true _ HB.out).mono ?_
    rintro e w1 ⟨rfl, hw1⟩
    have HL := Lib.hid (((((Lay.nil w).newB (opL o i) 36 5 rfl w.heap.size rfl).newB (opL o j) 36 5 rfl (w.heap.size + 1) (size_push _ _).symm)).keep hw1)
    clear hw1
    go_wp2
    go_ret
    exact ⟨ret_bool HR.out.symm, HL.out.bel⟩
end Go.Proofs.Ytoakgoigamigjaa
