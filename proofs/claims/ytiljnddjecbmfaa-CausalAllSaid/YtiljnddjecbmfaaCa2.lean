/- The walks of vector.Under and of causal's 'settle'. -/
import Derived.Test.YtiljnddjecbmfaaCa1
import Derived.Test.YtiljnddjecbmfaaContI
set_option linter.unusedVariables false
set_option linter.unusedSimpArgs false
namespace Go.Proofs.Ytiljnddjecbmfaa
open Go.RowKit Go.Maps Go.MapKept

set_option maxHeartbeats 800000 in
theorem under_is (c : Bool) (A1 A2 : Option Addr) (n cap1 cap2 B : Nat) (a b : Nat → Nat) (w : World) (hn : n ≤ 100) (hr1 : Rd w B A1 n (fun o => .int .i64 (a o : Nat))) (hr2 : Rd w B A2 n (fun o => .int .i64 (b o : Nat))) (hc : underB n a b = c) :
    Calls Try.prog 20 #[.slice A1 n cap1, .slice A2 n cap2] w fun e w' => e = .returned (.bool c) ∧ w = w' := by
  have HR1 := Lib.hid hr1; clear hr1
  have HR2 := Lib.hid hr2; clear hr2
  have HC := Lib.hid hc; clear hc
  go_enter Try.func20, Try.ntmps20
  go_wp2
  go_loop [9] (fun i => ∃ k : Nat, k ≤ n ∧ i = .int .i64 k ∧ Hid (∀ j, j < k → decide (b j < a j) = false)) (fun i => n - (intOf i).toNat)
  case atStart => exact ⟨0, by omega, rfl, fun j hj => absurd hj (by omega)⟩
  case round =>
    obtain ⟨k, hk, rfl, HA⟩ := hrel
    by_cases hlt : k < n
    · obtain ⟨ad1, rfl, _, hc1⟩ := HR1.out (by omega)
      obtain ⟨ad2, rfl, _, hc2⟩ := HR2.out (by omega)
      have c1 : w.cell? (ad1.add k) = some (.int .i64 (a k : Nat)) := hc1 k hlt
      have c2 : w.cell? (ad2.add k) = some (.int .i64 (b k : Nat)) := hc2 k hlt
      clear hc1 hc2
      by_cases he : b k < a k
      · have HE : Hid (c = false) := Lib.hid (by
          rw [← HC.out]; unfold underB
          rw [Bool.not_eq_false', anyTo_iff]
          exact ⟨k, hlt, by simpa using he⟩)
        go_wp2
        go_ret
        exact ⟨ret_bool HE.out.symm, rfl⟩
      · have HE := Lib.hid he
        go_wp2
        go_round
        case rel => exact ⟨k + 1, by omega, by go_num, fun j hj => (Nat.lt_succ_iff_lt_or_eq.1 hj).elim (HA.out j) (fun e => by subst e; simpa using HE.out)⟩
        case measure => simp [intOf]; omega
    · obtain rfl : k = n := by omega
      have HE : Hid (c = true) := Lib.hid (by
        rw [← HC.out]; unfold underB
        rw [Bool.not_eq_true', anyTo_no]
        exact HA.out)
      go_wp2
      go_ret
      exact ⟨ret_bool HE.out.symm, rfl⟩
theorem qsl_rd {w : World} {base : Nat} {A : Option Addr} {cap n : Nat} {l : List Nat} (hn : n = l.length) (h : QSl w base 3 (.slice A n cap) (vK l)) : Rd w w.heap.size A n (fun j => .int .i64 ((l[j]?.getD 0 : Nat) : Int)) := fun hp => by
  subst hn
  obtain ⟨g, off, rfl, hb, hc⟩ := h.cell (vK_at hp)
  refine ⟨_, rfl, ?_, fun j hj => ?_⟩
  · obtain ⟨_, hlt, _⟩ := h.has (g := g) rfl
    exact hlt
  · obtain ⟨g2, off2, e2, _, hc2⟩ := h.cell (vK_at hj)
    injection e2 with e2
    injection e2 with e3 e4
    subst e3; subst e4
    rcases j with _ | j
    · exact hc2
    · simpa [Addr.add] using hc2
theorem qsl_vec {w : World} {base : Nat} {A : Option Addr} {cap n : Nat} {c : Nat → Nat} (h : QSl w base 3 (.slice A n cap) (vec n c)) : Rd w w.heap.size A n (fun j => .int .i64 (c j : Nat)) := fun hp => by
  obtain ⟨g, off, rfl, hb, hc⟩ := h.cell (vec_at c hp)
  refine ⟨_, rfl, ?_, fun j hj => ?_⟩
  · obtain ⟨_, hlt, _⟩ := h.has (g := g) rfl
    exact hlt
  · obtain ⟨g2, off2, e2, _, hc2⟩ := h.cell (vec_at c hj)
    injection e2 with e2
    injection e2 with e3 e4
    subst e3; subst e4
    rcases j with _ | j
    · exact hc2
    · simpa [Addr.add] using hc2
theorem mem_any {l : List Nat} {i : Nat} : anyTo (fun j => (i : Int) == ((l[j]?.getD 0 : Nat) : Int)) l.length = decide (i ∈ l) := by
  rw [Bool.eq_iff_iff, anyTo_iff, decide_eq_true_iff, List.mem_iff_getElem]
  constructor
  · rintro ⟨j, hj, h⟩
    rw [List.getElem?_eq_getElem hj] at h
    exact ⟨j, hj, by simp at h; omega⟩
  · rintro ⟨j, hj, h⟩
    exact ⟨j, hj, by rw [List.getElem?_eq_getElem hj]; simp [h]⟩
def toldLen (gt i : Nat) (w : World) : Nat := match w.cell? ⟨gt, i, none⟩ with
  | some (.slice _ n _) => n
  | _ => 0
theorem settle_none {n to : Nat} {s : CaS} (h : ∀ k, k < s.m → mayC n s to k = false) : settleS n to s = s := by
  unfold settleS
  rw [settleC, next_no h]
theorem settle_some {n to k j : Nat} {s : CaS} (hB : CaB n j s) (hk : k < s.m) (h : mayC n s to k = true) (hno : ∀ j, j < k → mayC n s to j = false) : settleS n to s = settleS n to (tellC to k s) := by
  unfold settleS
  rw [settleC, next_is hk h hno]
  have h1 := (hB.tell hk (may_not h)).len to
  have h2 : ((tellC to k s).told to).length = (s.told to).length + 1 := by
    show (upd s.told to (s.told to ++ [k]) to).length = _
    rw [upd_same]; simp
  have h3 : (tellC to k s).m = s.m := rfl
  rw [h2, h3] at h1
  show settleC n to (s.m - (s.told to).length) (tellC to k s) = settleC n to ((tellC to k s).m - ((tellC to k s).told to).length + 1) (tellC to k s)
  rw [h2, h3]
  congr 1
  omega
section
variable (g cl gt gc cc gm cm n : Nat) (AL : Option Addr) (bc : Nat → Nat) (R : List LRow) (w0 : World)
set_option maxRecDepth 100000 in
set_option maxHeartbeats 6400000 in
theorem settle_any (i j : Nat) (f : FC → Value) (s : CaS) (w : World) (hn1 : 1 ≤ n) (hn : n ≤ 6) (hj : j ≤ 100) (hB : CaB n j s) (hi : i < n) (h : LayC g cl gt gc cc gm cm n AL bc R w0 f s w) :
    Calls Try.prog 18 #[.pointer (some ⟨g, 0, none⟩), .int .i64 i] w fun e w' => e = .returned (.tuple #[]) ∧ ∃ f', LayC g cl gt gc cc gm cm n AL bc R w0 f' (settleS n i s) w' := by
  have HW0 := Lib.hid h; clear h
  have HB0 := Lib.hid hB
  have hmj := hB.m
  obtain ⟨m, hm⟩ : ∃ m, s.m = m := ⟨_, rfl⟩
  rw [hm] at hmj
  have HM := Lib.hid hm
  clear hB hm
  go_enter Try.func18, Try.ntmps18
  go_wp2
  go_loopw [4] (fun kv wr => ∃ (k : Nat) (s1 : CaS) (f1 : FC → Value), kv = .int .i64 (k : Nat) ∧ k ≤ m ∧ s1.m = m ∧ Hid (settleS n i s = settleS n i s1) ∧ Hid (∀ q, q < k → mayC n s1 i q = false) ∧ Hid (CaB n j s1) ∧ Hid (LayC g cl gt gc cc gm cm n AL bc R w0 f1 s1 wr)) (fun kv wr => (m - toldLen gt i wr) * (m + 2) + (m - (intOf kv).toNat))
  case atStart => exact ⟨0, s, f, rfl, by omega, HM.out, Lib.hid rfl, Lib.hid (fun q hq => absurd hq (by omega)), HB0, HW0⟩
  case round =>
    clear HW0
    obtain ⟨k, s1, f1, rfl, hkm, hm1, HE, HNO, HB, HW⟩ := hrel
    obtain ⟨c0, c1, c2, c3, c4⟩ := ca_heads HW.out
    rw [hm1] at c1
    clear c0 c2 c3 c4
    by_cases hlt : k < m
    · have hk : k < s1.m := by omega
      have hk1000 : k < 1000 := by omega
      obtain ⟨bl, eb, -, -⟩ := ca_msg HW.out hk
      subst eb
      obtain ⟨A, cap, hf, hcl, hcm, hct⟩ := ca_told HW.out hi
      have hlen := HB.out.len i
      have HF := Lib.hid hf
      have HCT := Lib.hid hct
      clear hf hct
      cases hc : s1.come i k
      · have HMN : Hid (mayC n s1 i k = false) := Lib.hid (by unfold mayC; rw [hc]; rfl)
        go_wp2
        refine wp_mix (LayC g cl gt gc cc gm cm n (some ⟨bl, 0, none⟩) bc R w0 f1 s1) [0, 0, 0, 0, 0, 0, 0, 0, 0, 0, 0, 0, 0, 0, 0, 0, 0, 0, 1, 2, 2, 2, 2, 2, 2, 2, 2, 2, 2, 2, 2, 2, 2, 2, 2, 2, 2, 3, 3] ?A1 (by kernel_rfl) (by decide) (by kernel_rfl) (by repeat' (first | (with_reducible apply tame_then) | (with_reducible apply tame_block) | (with_reducible apply tame_scope) | exact tame_gives | exact tame_body (fun _ _ h => ⟨_, h.1⟩))) HW.out.drew ?head1 ?tail1
        case' head1 =>
          intro W5 hS
          have HS5 := Lib.hid hS
          obtain ⟨-, -, s2, -, s4⟩ := ca_heads HS5.out
          have s5 := HS5.out.lay.cell1 4 rfl hi
          have s6 := HS5.out.lay.cell1 2 rfl hi
          rw [HF.out] at s6
          have s7 := ca_look HS5.out hi hk1000
          rw [hc] at s7
          clear hS
          simp only [List.map_cons, List.map_nil, Nat.reduceBEq, pick]
          go_wp2
          exact taken
        case tail1 =>
          simp only [List.map_cons, List.map_nil, Nat.reduceBEq, pick]
          refine chain_step ?_
          go_wp2
          refine holds HW.out.drew ?_
          refine chain_end ⟨?A12, by kernel_rfl, ?head12, ?tail12⟩
          case' head12 =>
            intro W6 h6
            clear h6
            go_wp2
            exact taken
          case tail12 =>
            refine chain_step ?_
            go_wp2
            refine holds HW.out.drew ?_
            refine chain_step ?_
            go_wp2
            refine holds HW.out.drew ?_
            refine chain_end ?_
            go_wp2
            go_roundw
            case rel => exact ⟨k + 1, s1, f1, by go_num, by omega, hm1, HE, Lib.hid (fun q hq => (Nat.lt_succ_iff_lt_or_eq.1 hq).elim (HNO.out q) (fun e => by subst e; exact HMN.out)), HB, Lib.hid (ca_sim HW.out ⟨rfl, rfl, rfl, rfl⟩)⟩
            case measure =>
              have HT : toldLen gt i wr.drew = toldLen gt i wr := rfl
              show (m - toldLen gt i wr) * (m + 2) + _ < (m - toldLen gt i wr) * (m + 2) + _
              simp [intOf]
              omega
      · by_cases hmem : i = i ∧ k ∈ s1.told i
        · have HMN : Hid (mayC n s1 i k = false) := Lib.hid (by unfold mayC; simp [hmem.2])
          have HC : Hid (anyTo (fun j => (k : Int) == ((s1.told i)[j]?.getD 0 : Nat)) (s1.told i).length = true) := Lib.hid (mem_any.trans (by simp [hmem.2]))
          clear hmem
          go_wp2
          refine wp_mix (LayC g cl gt gc cc gm cm n (some ⟨bl, 0, none⟩) bc R w0 f1 s1) [0, 0, 0, 0, 0, 0, 0, 0, 0, 0, 0, 0, 0, 0, 0, 0, 0, 0, 1, 2, 2, 2, 2, 2, 2, 2, 2, 2, 2, 2, 2, 2, 2, 2, 2, 2, 2, 3, 3] ?A2 (by kernel_rfl) (by decide) (by kernel_rfl) (by repeat' (first | (with_reducible apply tame_then) | (with_reducible apply tame_block) | (with_reducible apply tame_scope) | exact tame_gives | exact tame_body (fun _ _ h => ⟨_, h.1⟩))) HW.out.drew ?head2 ?tail2
          case' head2 =>
            intro W5 hS
            have HS5 := Lib.hid hS
            obtain ⟨-, -, s2, -, s4⟩ := ca_heads HS5.out
            have s5 := HS5.out.lay.cell1 4 rfl hi
            have s6 := HS5.out.lay.cell1 2 rfl hi
            rw [HF.out] at s6
            have s7 := ca_look HS5.out hi hk1000
            rw [hc] at s7
            clear hS
            simp only [List.map_cons, List.map_nil, Nat.reduceBEq, pick]
            go_wp2
            exact taken
          case tail2 =>
            simp only [List.map_cons, List.map_nil, Nat.reduceBEq, pick]
            refine chain_step ?_
            go_wp2_with fail
            refine (contI_is true A (s1.told i).length cap _ _ (k : Int) wr.drew (by unfold maxLen; omega) (qsl_rd rfl (by have := HW.out.drew.own (.inl (.inl i)); rw [HF.out] at this; exact this)) HC.out).mono ?_
            rintro e w3 ⟨rfl, rfl⟩
            go_wp2
            refine holds HW.out.drew ?_
            refine chain_end ⟨?A22, by kernel_rfl, ?head22, ?tail22⟩
            case' head22 =>
              intro W6 h6
              clear h6
              go_wp2
              exact taken
            case tail22 =>
              refine chain_step ?_
              go_wp2
              refine holds HW.out.drew ?_
              refine chain_step ?_
              go_wp2
              refine holds HW.out.drew ?_
              refine chain_end ?_
              go_wp2
              go_roundw
              case rel => exact ⟨k + 1, s1, f1, by go_num, by omega, hm1, HE, Lib.hid (fun q hq => (Nat.lt_succ_iff_lt_or_eq.1 hq).elim (HNO.out q) (fun e => by subst e; exact HMN.out)), HB, Lib.hid (ca_sim HW.out ⟨rfl, rfl, rfl, rfl⟩)⟩
              case measure =>
                have HT : toldLen gt i wr.drew = toldLen gt i wr := rfl
                show (m - toldLen gt i wr) * (m + 2) + _ < (m - toldLen gt i wr) * (m + 2) + _
                simp [intOf]
                omega
        · have hnm : k ∉ s1.told i := fun h => hmem ⟨rfl, h⟩
          have HC : Hid (anyTo (fun j => (k : Int) == ((s1.told i)[j]?.getD 0 : Nat)) (s1.told i).length = false) := Lib.hid (mem_any.trans (by simp [hnm]))
          obtain ⟨b1, o1, cp1, hfa, ha1, ha2, -⟩ := ca_ahead HW.out hk hn1
          obtain ⟨b2, o2, cp2, hfc, hb1, hb2, -⟩ := ca_clock HW.out hi hn1
          have HFA := Lib.hid hfa
          have HFC := Lib.hid hfc
          have HRA : Hid (Rd wr.drew wr.drew.heap.size (some ⟨b1, o1, none⟩) n (fun o => .int .i64 (s1.ahead k o : Nat))) := Lib.hid (by
            have ho := HW.out.drew.own (.inr k)
            rw [HFA.out, show qsC n s1 (.inr k) = vec n (s1.ahead k) from if_pos hk] at ho
            exact qsl_vec ho)
          have HRC : Hid (Rd wr.drew wr.drew.heap.size (some ⟨b2, o2, none⟩) n (fun o => .int .i64 (s1.clock i o : Nat))) := Lib.hid (by
            have ho := HW.out.drew.own (.inl (.inr i))
            rw [HFC.out, show qsC n s1 (.inl (.inr i)) = vec n (s1.clock i) from if_pos hi] at ho
            exact qsl_vec ho)
          clear hmem hfa hfc
          cases hu : underB n (s1.ahead k) (s1.clock i)
          · have HU := Lib.hid hu
            have HMN : Hid (mayC n s1 i k = false) := Lib.hid (by unfold mayC; rw [hu]; simp)
            clear hu hnm
            go_wp2
            refine wp_mix (LayC g cl gt gc cc gm cm n (some ⟨bl, 0, none⟩) bc R w0 f1 s1) [0, 0, 0, 0, 0, 0, 0, 0, 0, 0, 0, 0, 0, 0, 0, 0, 0, 0, 1, 2, 2, 2, 2, 2, 2, 2, 2, 2, 2, 2, 2, 2, 2, 2, 2, 2, 2, 3, 3] ?A3 (by kernel_rfl) (by decide) (by kernel_rfl) (by repeat' (first | (with_reducible apply tame_then) | (with_reducible apply tame_block) | (with_reducible apply tame_scope) | exact tame_gives | exact tame_body (fun _ _ h => ⟨_, h.1⟩))) HW.out.drew ?head3 ?tail3
            case' head3 =>
              intro W5 hS
              have HS5 := Lib.hid hS
              obtain ⟨-, -, s2, -, s4⟩ := ca_heads HS5.out
              have s5 := HS5.out.lay.cell1 4 rfl hi
              have s6 := HS5.out.lay.cell1 2 rfl hi
              rw [HF.out] at s6
              have s7 := ca_look HS5.out hi hk1000
              rw [hc] at s7
              clear hS
              simp only [List.map_cons, List.map_nil, Nat.reduceBEq, pick]
              go_wp2
              exact taken
            case tail3 =>
              simp only [List.map_cons, List.map_nil, Nat.reduceBEq, pick]
              refine chain_step ?_
              go_wp2_with fail
              refine (contI_is false A (s1.told i).length cap _ _ (k : Int) wr.drew (by unfold maxLen; omega) (qsl_rd rfl (by have := HW.out.drew.own (.inl (.inl i)); rw [HF.out] at this; exact this)) HC.out).mono ?_
              rintro e w3 ⟨rfl, rfl⟩
              go_wp2
              refine holds HW.out.drew ?_
              refine chain_end ⟨?A32, by kernel_rfl, ?head32, ?tail32⟩
              case' head32 =>
                intro W6 hS
                have HS6 := Lib.hid hS
                obtain ⟨-, s1, -, s3, -⟩ := ca_heads HS6.out
                have s5 := HS6.out.lay.cell1 3 rfl hi
                rw [HFC.out] at s5
                obtain ⟨bl', eb, -, s6⟩ := ca_msg HS6.out hk
                obtain rfl : bl = bl' := by injection eb with eb; injection eb
                clear eb
                rw [HFA.out] at s6
                go_wp2
                exact taken
              case tail32 =>
                refine chain_step ?_
                go_wp2_with fail
                refine (under_is false (some ⟨b1, o1, none⟩) (some ⟨b2, o2, none⟩) n cp1 cp2 _ _ _ _ (by omega) HRA.out HRC.out HU.out).mono ?_
                rintro e w3 ⟨rfl, rfl⟩
                go_wp2
                refine holds HW.out.drew ?_
                refine chain_step ?_
                go_wp2
                refine holds HW.out.drew ?_
                refine chain_end ?_
                go_wp2_with fail
                go_roundw
                case rel => exact ⟨k + 1, s1, f1, by go_num, by omega, hm1, HE, Lib.hid (fun q hq => (Nat.lt_succ_iff_lt_or_eq.1 hq).elim (HNO.out q) (fun e => by subst e; exact HMN.out)), HB, Lib.hid (ca_sim HW.out ⟨rfl, rfl, rfl, rfl⟩)⟩
                case measure =>
                  have HT : toldLen gt i wr.drew = toldLen gt i wr := rfl
                  show (m - toldLen gt i wr) * (m + 2) + _ < (m - toldLen gt i wr) * (m + 2) + _
                  simp [intOf]
                  omega
          · have HU := Lib.hid hu
            have hmay : mayC n s1 i k = true := by unfold mayC; rw [hu, hc]; simp [hnm]
            have HMAY := Lib.hid hmay
            have HB2 := Lib.hid (HB.out.tell hk hnm)
            have HE2 := Lib.hid (HE.out.trans (settle_some HB.out hk hmay HNO.out))
            clear hu hnm hmay
            go_wp2
            refine wp_mix (LayC g cl gt gc cc gm cm n (some ⟨bl, 0, none⟩) bc R w0 f1 s1) [0, 0, 0, 0, 0, 0, 0, 0, 0, 0, 0, 0, 0, 0, 0, 0, 0, 0, 1, 2, 2, 2, 2, 2, 2, 2, 2, 2, 2, 2, 2, 2, 2, 2, 2, 2, 2, 3, 3] ?A4 (by kernel_rfl) (by decide) (by kernel_rfl) (by repeat' (first | (with_reducible apply tame_then) | (with_reducible apply tame_block) | (with_reducible apply tame_scope) | exact tame_gives | exact tame_body (fun _ _ h => ⟨_, h.1⟩))) HW.out.drew ?head4 ?tail4
            case' head4 =>
              intro W5 hS
              have HS5 := Lib.hid hS
              obtain ⟨-, -, s2, -, s4⟩ := ca_heads HS5.out
              have s5 := HS5.out.lay.cell1 4 rfl hi
              have s6 := HS5.out.lay.cell1 2 rfl hi
              rw [HF.out] at s6
              have s7 := ca_look HS5.out hi hk1000
              rw [hc] at s7
              clear hS
              simp only [List.map_cons, List.map_nil, Nat.reduceBEq, pick]
              go_wp2
              exact taken
            case tail4 =>
              simp only [List.map_cons, List.map_nil, Nat.reduceBEq, pick]
              refine chain_step ?_
              go_wp2_with fail
              refine (contI_is false A (s1.told i).length cap _ _ (k : Int) wr.drew (by unfold maxLen; omega) (qsl_rd rfl (by have := HW.out.drew.own (.inl (.inl i)); rw [HF.out] at this; exact this)) HC.out).mono ?_
              rintro e w3 ⟨rfl, rfl⟩
              go_wp2
              refine holds HW.out.drew ?_
              refine chain_end ⟨?A42, by kernel_rfl, ?head42, ?tail42⟩
              case' head42 =>
                intro W6 hS
                have HS6 := Lib.hid hS
                obtain ⟨-, s1, -, s3, -⟩ := ca_heads HS6.out
                have s5 := HS6.out.lay.cell1 3 rfl hi
                rw [HFC.out] at s5
                obtain ⟨bl', eb, -, s6⟩ := ca_msg HS6.out hk
                obtain rfl : bl = bl' := by injection eb with eb; injection eb
                clear eb
                rw [HFA.out] at s6
                go_wp2
                exact taken
              case tail42 =>
                refine chain_step ?_
                go_wp2_with fail
                refine (under_is true (some ⟨b1, o1, none⟩) (some ⟨b2, o2, none⟩) n cp1 cp2 _ _ _ _ (by omega) HRA.out HRC.out HU.out).mono ?_
                rintro e w3 ⟨rfl, rfl⟩
                go_wp2
                refine holds HW.out.drew ?_
                refine chain_step ?_
                go_wp2
                refine holds HW.out.drew ?_
                refine chain_end ?_
                go_wp2_with fail
                refine (tell_any g cl gt gc cc gm cm n (some ⟨bl, 0, none⟩) bc R w0 i k j f1 s1 _ hn1 hn hj HB.out hi hk HW.out.drew).mono ?_
                rintro e w7 ⟨rfl, f7, h7⟩
                obtain ⟨A7, cap7, -, -, -, hct7⟩ := ca_told h7 hi
                have hl7 : ((tellC i k s1).told i).length = (s1.told i).length + 1 := by
                  show (upd s1.told i (s1.told i ++ [k]) i).length = _
                  rw [upd_same]; simp
                rw [hl7] at hct7
                have hlm := HB2.out.len i
                rw [hl7, show (tellC i k s1).m = m from hm1] at hlm
                have HT7 : Hid (toldLen gt i w7 = (s1.told i).length + 1) := Lib.hid (by unfold toldLen; rw [hct7])
                have HT0 : Hid (toldLen gt i wr = (s1.told i).length) := Lib.hid (by unfold toldLen; rw [HCT.out])
                have H7 := Lib.hid h7
                clear h7 hct7 hl7 HW HRA HRC HF HFA HFC HC HU HMAY HE HNO HCT
                go_wp2
                go_roundw
                case rel => exact ⟨0, tellC i k s1, f7, by go_num, by omega, hm1, HE2, Lib.hid (fun q hq => absurd hq (by omega)), HB2, H7⟩
                case measure =>
                  rw [HT7.out, HT0.out]
                  have e : m - (s1.told i).length = (m - ((s1.told i).length + 1)) + 1 := by omega
                  rw [e, Nat.succ_mul]
                  simp [intOf]
                  omega
    · obtain rfl : k = m := by omega
      have HR : Hid (settleS n i s = s1) := Lib.hid (HE.out.trans (settle_none fun q hq => HNO.out q (by omega)))
      go_wp2
      go_end0
      exact ⟨rfl, f1, by rw [HR.out]; exact HW.out⟩
end
end Go.Proofs.Ytiljnddjecbmfaa
