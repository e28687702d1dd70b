/- The law LineReads, walked. -/
import Derived.Test.YthlpfacgdhdpiaaLn3
import Derived.Test.YthlpfacgdhdpiaaLnRem
import Derived.Test.YthlpfacgdhdpiaaStep
import Derived.Deep.RegionLaw
set_option linter.unusedVariables false
set_option linter.unusedSimpArgs false
namespace Go.Proofs.Ythlpfacgdhdpiaa
open Go.RowKit

theorem infoOpR : (Try.prog.info? 28).map (fun i => (i.zero, i.size, i.bytes)) = some (some (.agg #[.int .i64 0, .int .i64 0, .int .i64 0, .bool false, .int .i64 0]), 5, 40) := by kernel_rfl
theorem eg_Line : ∀ args w, (callFunc 7 args).run Try.prog w = .ok (.enter 7 args) w := by
  intro args w
  first | rfl | (simp [callFunc, go_sem]; rfl)
theorem op_oneR (o : Opl) (j : Nat) : (opF o j).oneCell' = true := by
  unfold opF
  repeat' split
  all_goals rfl
theorem step_apN {P : Program} {w : World} {ops : Array Oper} {o : Oper} {a : Act} {K : Act → World → Prop} {Q : Exit → Act → World → Prop} {E : Prop} (hgd : o.guard = none) (s x : Operand) (t : TypeId)
    (ho : o.op = .call { callee := .builtin .append, args := #[s, x], argTypes := #[t, t] })
    (e : TypeId) (i : TypeInfo) (z : Value) (size bytes : Nat) (ht : P.underlying t = some (.slice e)) (hi : P.info? e = some i) (hz : i.zero = some z)
    (hsize : i.size = size) (hby : i.bytes = bytes) (hzs : z.cells.size = size) (hsz : 0 < size) (base : Nat)
    {A : Option Addr} {n cap : Nat} {f : Nat → Value} (hs : a.eval s = .slice A n cap) (hown : Own w base e size A n cap f)
    {B : Nat} {X : Option Addr} {m c : Nat} {g : Nat → Value} (hx : a.eval x = .slice X m c) (hr : Rd w B X (m * size) g) (h1 : ∀ j, j < m * size → (g j).oneCell' = true)
    (f' : Nat → Value) (hf1 : ∀ j, j < n * size → f' j = f j) (hf2 : ∀ j, j < m * size → f' (n * size + j) = g j)
    (k : Nat) (hk : n + m = k) (h63 : n + m ≤ maxLen) (hbytes : (n + m) * bytes ≤ 140737488355328) (hbase : base ≤ w.heap.size)
    (h : ∀ A' cap' w', Own w' base e size A' k cap' f' → w.grownBy w' (ablock A) → (ablock A' = ablock A ∨ ablock A' = some w.heap.size) → K (a.put o.dst (.slice A' k cap')) w') :
    if Region.wanted o (yielded ops a.tmps) = true then Oper.wp P o a w K Q else E := by
  have hw : Region.wanted o (yielded ops a.tmps) = true := by simp [Region.wanted, hgd]
  rw [if_pos hw]
  subst hk
  obtain ⟨A', cap', w', hrun, h2, h3, h4⟩ := run_ap (P := P) w t o.type e i z size bytes ht hi hz hsize hby hzs hsz base hown hr h1 f' hf1 hf2 h63 hbytes hbase (c := c)
  unfold Oper.wp execOp
  simp only [ho, resolve, invoke, builtin, Sem.run_bind, Sem.run_pure, Result.andThen_ok, List.map_toArray, List.map_cons, List.map_nil, hs, hx, hrun]
  exact h A' cap' w' h2 h3 h4
theorem step_callV {P : Program} {w : World} {ops : Array Oper} {o : Oper} {a : Act} {K : Act → World → Prop} {Q : Exit → Act → World → Prop} {E : Prop} (hgd : o.guard = none) (f : FuncId) (x : Operand) (ts : Array TypeId)
    (ho : o.op = Op.call { callee := Callee.value (Operand.func f), args := #[x], argTypes := ts }) {v : Value} (hx : a.eval x = v) (heg : ∀ args w, (callFunc f args).run P w = .ok (.enter f args) w)
    (hc : Calls P f #[v] w fun e w' => ∃ u, e = .returned u ∧ K (a.put o.dst u) w') : if Region.wanted o (yielded ops a.tmps) = true then Oper.wp P o a w K Q else E := by
  have hw : Region.wanted o (yielded ops a.tmps) = true := by simp [Region.wanted, hgd]
  rw [if_pos hw]
  have he : (execOp a.eval o).run P w = .ok (.enter f #[v]) w := by
    obtain ⟨dst, op, ty, pos, aft, gd⟩ := o
    have ho : op = _ := ho
    subst ho
    have h2 : (#[] ++ (#[x] : Array Operand).map a.eval ++ #[]) = #[v] := by simp [hx]
    rw [execOp_call_go, h2]
    exact heg _ _
  unfold Oper.wp
  rw [he]
  refine Calls.mono hc ?_
  rintro e w' ⟨u, rfl, hk⟩
  exact hk
set_option maxRecDepth 100000 in
set_option maxHeartbeats 3200000 in
theorem lineReads_some (o : Opl) (hok : o.Ok) (hf : Fin o (lineB o) 0 (-1)) (hn : 0 < o.n) (A : Option Addr) (cap : Nat) (k : Nat) (w : World) (hcap : o.n ≤ cap ∧ cap ≤ maxLen) (ho : OpsIn w A o) (hr : Rd w w.heap.size A (o.n * 5) (opF o)) (hk : k < 256) :
    Calls Try.prog 3 #[.slice A o.n cap, .int .u8 k] w fun e w' => e = .returned (.bool true) ∧ Below w.heap.size w w' := by
  have H1 := Lib.hid (line_good o hok A cap w hcap ho)
  have H3 := Lib.hid (fun (W : World) (hb : Below w.heap.size w W) => int_is_b (lcheck2_any o A cap W hcap (ho.below hb)) (ok_code hok))
  have HO := Lib.hid ho
  have HR := Lib.hid hr
  have HOK := Lib.hid hok
  have HF := Lib.hid hf
  obtain ⟨l, hl⟩ := hf
  have HG := Lib.hid (run_good hl)
  have hn8 := hok.n8
  obtain ⟨nn, hnn⟩ : ∃ nn, o.n = nn := ⟨_, rfl⟩
  have HNN := Lib.hid hnn
  obtain ⟨hc1, hc2⟩ := hcap
  unfold maxLen at hc2
  rw [hnn] at hn hn8 hc1 H1 H3 HR ⊢
  obtain ⟨i, hi, hin⟩ : ∃ i : Nat, ((k : Int) % (nn : Int)) = (i : Int) ∧ i < nn := ⟨k % nn, by simp, Nat.mod_lt _ hn⟩
  have hi0 : ((nn : Int) == 0) = false := by rw [beq_eq_false_iff_ne]; omega
  have hi1 : (nn == 0) = false := by rw [beq_eq_false_iff_ne]; omega
  obtain ⟨iO, hiO, hzO0, hzO1, hzO2⟩ := info_parts infoOpR
  clear ho hr hok hl hnn
  go_enter Try.func3, Try.ntmps3
  go_wp2_with fail
  refine H1.out.mono ?_
  rintro e w1 ⟨v, rfl, b, rfl, hb, hw1⟩
  obtain rfl : b = true := hb.2 HF.out
  have HW1 := Lib.hid hw1
  clear hb hw1 H1
  go_wp2_with fail
  refine (H3.out w1 HW1.out).mono ?_
  rintro e w2 ⟨rfl, hw2⟩
  have HL2 : Hid (Lay w w2 []) := (Lay.nil w).keep (HW1.out.trans (hw2.mono HW1.out.size))
  clear hw2 H3 HW1
  go_wp2
  simp only [hi]
  clear hi0 hi1 hi
  go_loopw [47] (fun x wr => ∃ x' : Nat, x' ≤ nn ∧ x = .int .i64 x' ∧ Hid (Lay w wr [])) (fun x _ => nn - (intOf x).toNat)
  case atStart => exact ⟨0, by omega, rfl, HL2.out⟩
  case round =>
    clear HL2
    obtain ⟨x, hx, rfl, HL⟩ := hrel
    by_cases hlt : x < nn
    · have hltx : x < o.n := by rw [HNN.out]; exact hlt
      obtain ⟨ad, rfl, c0, c1, c2, c3, c4⟩ := HO.out wr HL.out.bel x hltx
      have HL1 : Hid (Lay w (wr.alloc (.cells #[.int .i64 (o.fr x), .int .i64 (o.bg x), .int .i64 (o.en x), .bool (o.wr x), .int .i64 (o.vl x)] 28)) [blk wr.heap.size 28 5 (ofL (opL o x))]) := HL.out.newB (opL o x) _ 5 rfl _ rfl
      have HK0 := Lib.hid (okB_0 o x)
      have HKN := Lib.hid (HG.out.ok hltx)
      cases hw : o.wr x
      · rw [hw] at c3 HL1
        cases hv : (o.vl x == 0)
        · have HB0 : Hid (okB o x 0 = false) := HK0.out.trans (by rw [hw, hv]; rfl)
          clear hw
          go_wp2
          clear c0 c1 c2 c3 c4
          generalize wr.heap.size = ba at HL1 ⊢
          go_loopw [60, 10] (fun y z wr => ∃ (t : Nat) (b : Bool), t ≤ nn ∧ y = .int .i64 t ∧ z = .bool b ∧ Hid (okB o x t = b) ∧ Hid (Lay w wr [blk ba 28 5 (ofL (opL o x))])) (fun y _ _ => nn - (intOf y).toNat)
          case atStart => exact ⟨0, _, by omega, rfl, rfl, HB0.out, HL1.out⟩
          case round =>
            clear HL HL1 HB0
            obtain ⟨t, b, ht, rfl, rfl, HB, HL⟩ := hrel
            by_cases hltt : t < nn
            · obtain ⟨ad2, e2, d0, d1, d2, d3, d4⟩ := HO.out wr HL.out.bel t (by rw [HNN.out]; exact hltt)
              injection e2 with e2
              subst e2
              have b2 := HL.out.cellB 0 rfl 2 (by omega)
              have b4 := HL.out.cellB 0 rfl 4 (by omega)
              have hba := (HL.out.at_ 0 rfl).2
              simp only [opL, ofL_2, ofL_4] at b2 b4
              have HL1 : Hid (∀ ob, Lay w (wr.alloc ob) [blk ba 28 5 (ofL (opL o x))]) := fun ob => HL.out.alloc ob
              cases b
              · have HN0 := Lib.hid (okB_false HB.out)
                cases hw2 : o.wr t
                · have HN : Hid (okB o x (t + 1) = false) := HN0.out.trans (by simp [srcB, hw2])
                  rw [hw2] at d3
                  clear hw2
                  go_wp2
                  go_roundw
                  case rel => exact ⟨t + 1, _, by omega, by go_num, rfl, HN.out, HL1.out _⟩
                  case measure => simp [intOf]; omega
                · rw [hw2] at d3
                  cases hv2 : (o.vl t == o.vl x)
                  · have HN : Hid (okB o x (t + 1) = false) := HN0.out.trans (by unfold srcB; rw [hv2]; simp)
                    clear hw2
                    go_wp2
                    go_roundw
                    case rel => exact ⟨t + 1, _, by omega, by go_num, rfl, HN.out, HL1.out _⟩
                    case measure => simp [intOf]; omega
                  · by_cases hle : o.bg t ≤ o.en x
                    · have HN : Hid (okB o x (t + 1) = true) := HN0.out.trans (by unfold srcB; rw [hw2, hv2]; simp [hle])
                      clear hw2
                      go_wp2
                      go_roundw
                      case rel => exact ⟨t + 1, _, by omega, by go_num, rfl, HN.out, HL1.out _⟩
                      case measure => simp [intOf]; omega
                    · have HN : Hid (okB o x (t + 1) = false) := HN0.out.trans (by unfold srcB; rw [hw2, hv2]; simp; omega)
                      have hle : o.en x < o.bg t := by omega
                      clear hw2
                      go_wp2
                      go_roundw
                      case rel => exact ⟨t + 1, _, by omega, by go_num, rfl, HN.out, HL1.out _⟩
                      case measure => simp [intOf]; omega
              · have HN := Lib.hid (okB_true HB.out)
                go_wp2
                go_roundw
                case rel => exact ⟨t + 1, _, by omega, by go_num, rfl, HN.out, HL1.out _⟩
                case measure => simp [intOf]; omega
            · obtain rfl : t = nn := by omega
              obtain rfl : b = true := by
                have h1 := HKN.out
                rw [HNN.out] at h1
                exact HB.out.symm.trans h1
              go_wp2
              go_roundw
              case rel => exact ⟨x + 1, by omega, by go_num, HL.out.tail⟩
              case measure => simp [intOf]; omega
        · have HB0 : Hid (okB o x 0 = true) := HK0.out.trans (by rw [hw, hv]; rfl)
          clear hw
          go_wp2
          clear c0 c1 c2 c3 c4
          generalize wr.heap.size = ba at HL1 ⊢
          go_loopw [60, 10] (fun y z wr => ∃ (t : Nat) (b : Bool), t ≤ nn ∧ y = .int .i64 t ∧ z = .bool b ∧ Hid (okB o x t = b) ∧ Hid (Lay w wr [blk ba 28 5 (ofL (opL o x))])) (fun y _ _ => nn - (intOf y).toNat)
          case atStart => exact ⟨0, _, by omega, rfl, rfl, HB0.out, HL1.out⟩
          case round =>
            clear HL HL1 HB0
            obtain ⟨t, b, ht, rfl, rfl, HB, HL⟩ := hrel
            by_cases hltt : t < nn
            · obtain ⟨ad2, e2, d0, d1, d2, d3, d4⟩ := HO.out wr HL.out.bel t (by rw [HNN.out]; exact hltt)
              injection e2 with e2
              subst e2
              have b2 := HL.out.cellB 0 rfl 2 (by omega)
              have b4 := HL.out.cellB 0 rfl 4 (by omega)
              have hba := (HL.out.at_ 0 rfl).2
              simp only [opL, ofL_2, ofL_4] at b2 b4
              have HL1 : Hid (∀ ob, Lay w (wr.alloc ob) [blk ba 28 5 (ofL (opL o x))]) := fun ob => HL.out.alloc ob
              cases b
              · have HN0 := Lib.hid (okB_false HB.out)
                cases hw2 : o.wr t
                · have HN : Hid (okB o x (t + 1) = false) := HN0.out.trans (by simp [srcB, hw2])
                  rw [hw2] at d3
                  clear hw2
                  go_wp2
                  go_roundw
                  case rel => exact ⟨t + 1, _, by omega, by go_num, rfl, HN.out, HL1.out _⟩
                  case measure => simp [intOf]; omega
                · rw [hw2] at d3
                  cases hv2 : (o.vl t == o.vl x)
                  · have HN : Hid (okB o x (t + 1) = false) := HN0.out.trans (by unfold srcB; rw [hv2]; simp)
                    clear hw2
                    go_wp2
                    go_roundw
                    case rel => exact ⟨t + 1, _, by omega, by go_num, rfl, HN.out, HL1.out _⟩
                    case measure => simp [intOf]; omega
                  · by_cases hle : o.bg t ≤ o.en x
                    · have HN : Hid (okB o x (t + 1) = true) := HN0.out.trans (by unfold srcB; rw [hw2, hv2]; simp [hle])
                      clear hw2
                      go_wp2
                      go_roundw
                      case rel => exact ⟨t + 1, _, by omega, by go_num, rfl, HN.out, HL1.out _⟩
                      case measure => simp [intOf]; omega
                    · have HN : Hid (okB o x (t + 1) = false) := HN0.out.trans (by unfold srcB; rw [hw2, hv2]; simp; omega)
                      have hle : o.en x < o.bg t := by omega
                      clear hw2
                      go_wp2
                      go_roundw
                      case rel => exact ⟨t + 1, _, by omega, by go_num, rfl, HN.out, HL1.out _⟩
                      case measure => simp [intOf]; omega
              · have HN := Lib.hid (okB_true HB.out)
                go_wp2
                go_roundw
                case rel => exact ⟨t + 1, _, by omega, by go_num, rfl, HN.out, HL1.out _⟩
                case measure => simp [intOf]; omega
            · obtain rfl : t = nn := by omega
              obtain rfl : b = true := by
                have h1 := HKN.out
                rw [HNN.out] at h1
                exact HB.out.symm.trans h1
              go_wp2
              go_roundw
              case rel => exact ⟨x + 1, by omega, by go_num, HL.out.tail⟩
              case measure => simp [intOf]; omega
      · have HB0 : Hid (okB o x 0 = true) := HK0.out.trans (by rw [hw]; rfl)
        rw [hw] at c3 HL1
        clear hw
        go_wp2
        clear c0 c1 c2 c3 c4
        generalize wr.heap.size = ba at HL1 ⊢
        go_loopw [60, 10] (fun y z wr => ∃ (t : Nat) (b : Bool), t ≤ nn ∧ y = .int .i64 t ∧ z = .bool b ∧ Hid (okB o x t = b) ∧ Hid (Lay w wr [blk ba 28 5 (ofL (opL o x))])) (fun y _ _ => nn - (intOf y).toNat)
        case atStart => exact ⟨0, _, by omega, rfl, rfl, HB0.out, HL1.out⟩
        case round =>
          clear HL HL1 HB0
          obtain ⟨t, b, ht, rfl, rfl, HB, HL⟩ := hrel
          by_cases hltt : t < nn
          · obtain ⟨ad2, e2, d0, d1, d2, d3, d4⟩ := HO.out wr HL.out.bel t (by rw [HNN.out]; exact hltt)
            injection e2 with e2
            subst e2
            have b2 := HL.out.cellB 0 rfl 2 (by omega)
            have b4 := HL.out.cellB 0 rfl 4 (by omega)
            have hba := (HL.out.at_ 0 rfl).2
            simp only [opL, ofL_2, ofL_4] at b2 b4
            have HL1 : Hid (∀ ob, Lay w (wr.alloc ob) [blk ba 28 5 (ofL (opL o x))]) := fun ob => HL.out.alloc ob
            cases b
            · have HN0 := Lib.hid (okB_false HB.out)
              cases hw2 : o.wr t
              · have HN : Hid (okB o x (t + 1) = false) := HN0.out.trans (by simp [srcB, hw2])
                rw [hw2] at d3
                clear hw2
                go_wp2
                go_roundw
                case rel => exact ⟨t + 1, _, by omega, by go_num, rfl, HN.out, HL1.out _⟩
                case measure => simp [intOf]; omega
              · rw [hw2] at d3
                cases hv2 : (o.vl t == o.vl x)
                · have HN : Hid (okB o x (t + 1) = false) := HN0.out.trans (by unfold srcB; rw [hv2]; simp)
                  clear hw2
                  go_wp2
                  go_roundw
                  case rel => exact ⟨t + 1, _, by omega, by go_num, rfl, HN.out, HL1.out _⟩
                  case measure => simp [intOf]; omega
                · by_cases hle : o.bg t ≤ o.en x
                  · have HN : Hid (okB o x (t + 1) = true) := HN0.out.trans (by unfold srcB; rw [hw2, hv2]; simp [hle])
                    clear hw2
                    go_wp2
                    go_roundw
                    case rel => exact ⟨t + 1, _, by omega, by go_num, rfl, HN.out, HL1.out _⟩
                    case measure => simp [intOf]; omega
                  · have HN : Hid (okB o x (t + 1) = false) := HN0.out.trans (by unfold srcB; rw [hw2, hv2]; simp; omega)
                    have hle : o.en x < o.bg t := by omega
                    clear hw2
                    go_wp2
                    go_roundw
                    case rel => exact ⟨t + 1, _, by omega, by go_num, rfl, HN.out, HL1.out _⟩
                    case measure => simp [intOf]; omega
            · have HN := Lib.hid (okB_true HB.out)
              go_wp2
              go_roundw
              case rel => exact ⟨t + 1, _, by omega, by go_num, rfl, HN.out, HL1.out _⟩
              case measure => simp [intOf]; omega
          · obtain rfl : t = nn := by omega
            obtain rfl : b = true := by
              have h1 := HKN.out
              rw [HNN.out] at h1
              exact HB.out.symm.trans h1
            go_wp2
            go_roundw
            case rel => exact ⟨x + 1, by omega, by go_num, HL.out.tail⟩
            case measure => simp [intOf]; omega
    · obtain rfl : x = nn := by omega
      have hinx : i < o.n := by rw [HNN.out]; exact hin
      obtain ⟨ad, rfl, c0, c1, c2, c3, c4⟩ := HO.out wr HL.out.bel i hinx
      cases hw : o.wr i
      · have HWR := Lib.hid hw
        rw [hw] at c3
        clear hw
        go_wp2
        have hs1 : i ≤ cap := by omega
        have hs2 : i + 1 ≤ cap := by omega
        have hs3 : i + 1 ≤ x := by omega
        have hs4 : x ≤ cap := by omega
        have hwr : IntKind.i64.wrap ((i : Int) + 1) = (i : Int) + 1 := by rw [IntKind.wrap_i64]; omega
        have hw0 : 0 ≤ (i : Int) + 1 := by omega
        have hw1 : (i : Int) + 1 ≤ (x : Int) := by omega
        have hwt : ((i : Int) + 1).toNat = i + 1 := by omega
        obtain ⟨X, hX⟩ : ∃ X, (if cap = i + 1 then some ad else some (ad.add ((i + 1) * 5))) = X := ⟨_, rfl⟩
        have HRX : Hid (∀ W, Below w.heap.size w W → Rd W w.heap.size X ((x - (i + 1)) * 5) (fun j => opF o ((i + 1) * 5 + j))) := by
          show ∀ W, _
          intro W hb
          by_cases hm : x - (i + 1) = 0
          · rw [hm, Nat.zero_mul]; exact Rd.zero _ _ _ _
          · rw [if_neg (by omega)] at hX
            intro _
            obtain ⟨ad', e', hbl, hc⟩ := (HR.out.below hb) (show 0 < x * 5 by omega)
            injection e' with e'
            subst e'
            exact ⟨_, hX.symm, by rw [addr_block]; exact hbl, fun j hj => by rw [addr_add]; exact hc _ (by omega)⟩
        have HR1 : Hid (∀ W, Below w.heap.size w W → Rd W w.heap.size (some ad) (i * 5) (opF o)) := fun W hb => (HR.out.below hb).less (by omega)
        have HLN : Hid ((remO o i).n = x - 1) := by show o.n - 1 = x - 1; rw [HNN.out]
        have HLINE : Hid (∀ (A : Option Addr) (cap : Nat) (W : World), Lay w W [⟨A, 28, 5, x - 1, cap, opF (remO o i)⟩] → Calls Try.prog 7 #[.slice A (x - 1) cap] W (Gives fun v w' => v = .tuple #[.bool true, .int .i64 0] ∧ Below w.heap.size w w')) := by
          show ∀ A, _
          intro A cap W hL
          have hle := (hL.own 0 _ rfl).le
          have := line_good (remO o i) (rem_ok HOK.out hinx) A cap W (by rw [HLN.out]; exact hle) (ops_in (Nat.le_refl _) (by rw [HLN.out]; exact hL.rd 0 rfl))
          rw [HLN.out] at this
          refine this.mono fun e w' ⟨v, h1, b, h2, h3, h4⟩ => ⟨v, h1, ?_, hL.bel.trans (h4.mono hL.size)⟩
          rw [h2, h3.2 (rem_fin HOK.out hinx HWR.out HF.out)]
        go_region_law? (first
          | (refine step_apN rfl (.tmp 93) (.tmp 96) _ rfl 28 iO _ 5 40 Try.underlying22 hiO hzO0 hzO1 hzO2 rfl (by omega) w.heap.size rfl (f := opF (remO o i)) (Own.empty wr w.heap.size _ 5 _ _ rfl HL.out.size).drew rfl (HR1.out _ (below_sim (HL.out.bel.alloc HL.out.size _) ⟨rfl, rfl, rfl, rfl⟩)) (fun j _ => op_oneR o _) (opF (remO o i)) (fun j hj => rfl) (fun j hj => by rw [Nat.zero_mul, Nat.zero_add]; exact rem_low o i hj) i (by omega) (by unfold maxLen; omega) (by omega) (by have := HL.out.size; simp; omega) ?_
             intro A1 cp1 u1 ho1 hg1 he1
             have HX1 : Hid (Lay w u1 [⟨A1, 28, 5, i, cp1, opF (remO o i)⟩]) := ((HL.out.new #[] 28 5 0 (opF (remO o i)) _ rfl rfl (by unfold maxLen; omega) (fun j hj => absurd hj (by omega))).drew).app 0 rfl ho1 hg1 he1
             clear ho1 hg1 he1)
          | (refine step_apN rfl (.tmp 97) (.tmp 101) _ rfl 28 iO _ 5 40 Try.underlying22 hiO hzO0 hzO1 hzO2 rfl (by omega) w.heap.size rfl (HX1.out.own 0 _ rfl) rfl (HRX.out _ HX1.out.bel) (fun j _ => op_oneR o _) (opF (remO o i)) (fun j hj => rfl) (fun j hj => rem_high o i j) (x - 1) (by omega) (by unfold maxLen; omega) (by omega) HX1.out.size ?_
             intro A2 cp2 u2 ho2 hg2 he2
             have HX2 : Hid (Lay w u2 [⟨A2, 28, 5, x - 1, cp2, opF (remO o i)⟩]) := HX1.out.app 0 rfl ho2 hg2 he2
             clear ho2 hg2 he2 HX1)
          | (refine step_callV rfl 7 (.tmp 102) _ rfl rfl eg_Line ((HLINE.out _ _ _ HX2.out).mono ?_)
             rintro e u3 ⟨v, rfl, rfl, hw3⟩
             refine ⟨_, rfl, ?_⟩
             have HX3 := Lib.hid hw3
             clear hw3 HX2))
        go_wp2
        go_ret
        exact ⟨rfl, HX3.out⟩
      · rw [hw] at c3
        clear hw
        go_wp2
        go_ret
        exact ⟨rfl, HL.out.bel⟩
set_option maxRecDepth 100000 in
set_option maxHeartbeats 1600000 in
theorem lineReads_not (o : Opl) (hok : o.Ok) (hf : ¬ (Fin o (lineB o) 0 (-1) ∧ 0 < o.n)) (A : Option Addr) (cap : Nat) (k : Nat) (w : World) (hcap : o.n ≤ cap ∧ cap ≤ maxLen) (ho : OpsIn w A o) :
    Calls Try.prog 3 #[.slice A o.n cap, .int .u8 k] w fun e w' => e = .returned (.bool true) ∧ Below w.heap.size w w' := by
  have H1 := Lib.hid (line_good o hok A cap w hcap ho)
  have H3 := Lib.hid (fun (W : World) (hb : Below w.heap.size w W) => int_is_b (lcheck2_any o A cap W hcap (ho.below hb)) (ok_code hok))
  have hnn : ¬ Fin o (lineB o) 0 (-1) ∨ o.n = 0 := by
    by_cases h : Fin o (lineB o) 0 (-1)
    · rcases Nat.eq_zero_or_pos o.n with h0 | h0
      · exact .inr h0
      · exact absurd ⟨h, h0⟩ hf
    · exact .inl h
  -- without any operation there is an order; with none the list is not empty
  have hnz : ¬ Fin o (lineB o) 0 (-1) → 0 < o.n := by
    intro h
    rcases Nat.eq_zero_or_pos o.n with h0 | h0
    · exact absurd ⟨[], by show 0 = 2 ^ o.n - 1; rw [h0]⟩ h
    · exact h0
  have HNZ := Lib.hid hnz
  clear ho hcap hok hf hnz
  go_enter Try.func3, Try.ntmps3
  go_wp2_with fail
  refine H1.out.mono ?_
  rintro e w1 ⟨v, rfl, b, rfl, hb, hw1⟩
  have HW1 := Lib.hid hw1
  have HB := Lib.hid hb
  clear hb hw1 H1
  go_wp2_with fail
  refine (H3.out w1 HW1.out).mono ?_
  rintro e w2 ⟨rfl, hw2⟩
  have HW2 := Lib.hid (HW1.out.trans (hw2.mono HW1.out.size))
  clear hw2 H3 HW1
  cases b
  · have hn : 0 < o.n := HNZ.out fun h => by have := HB.out.2 h; cases this
    have e1 : ((o.n : Int) == 0) = false := by rw [beq_eq_false_iff_ne]; omega
    have e2 : (o.n == 0) = false := by rw [beq_eq_false_iff_ne]; omega
    go_wp2
    go_ret
    exact ⟨rfl, HW2.out⟩
  · have hn : o.n = 0 := hnn.resolve_left (fun h => h (HB.out.1 rfl))
    have e1 : ((o.n : Int) == 0) = true := by simp [hn]
    have e2 : (o.n == 0) = true := by simp [hn]
    go_wp2
    all_goals go_ret
    all_goals exact ⟨rfl, HW2.out⟩
set_option maxRecDepth 100000 in
set_option maxHeartbeats 1600000 in
theorem lineReads_bad (o : Opl) (hbad : lCode o ≠ 0) (A : Option Addr) (cap : Nat) (k : Nat) (w : World) (hcap : o.n ≤ cap ∧ cap ≤ maxLen) (ho : OpsIn w A o) :
    Calls Try.prog 3 #[.slice A o.n cap, .int .u8 k] w fun e w' => e = .returned (.bool true) ∧ Below w.heap.size w w' := by
  have H1 := Lib.hid (line_bad o A cap w hcap ho hbad)
  have H3 := Lib.hid (fun (W : World) (hb : Below w.heap.size w W) => lcheck2_any o A cap W hcap (ho.below hb))
  generalize lCode o = c at H1 H3 hbad
  have he : (c != 0) = true := by simpa using hbad
  clear ho hcap hbad
  go_enter Try.func3, Try.ntmps3
  go_wp2_with fail
  refine H1.out.mono ?_
  rintro e w1 ⟨v, rfl, rfl, hw1⟩
  have HW1 := Lib.hid hw1
  clear hw1 H1
  go_wp2_with fail
  refine (H3.out w1 HW1.out).mono ?_
  rintro e w2 ⟨rfl, hw2⟩
  have HW2 := Lib.hid (HW1.out.trans (hw2.mono HW1.out.size))
  clear hw2 H3 HW1
  go_wp2
  go_ret
  exact ⟨rfl, HW2.out⟩
theorem lineReads_all (A : Option Addr) (cap : Nat) (o : Opl) (x : Int) (w : World) (hcap : o.n ≤ cap ∧ cap ≤ maxLen) (hr : Rd w w.heap.size A (o.n * 5) (opF o)) (hx : (Lit.int .u8 x).wf = true) :
    Calls Try.prog 3 #[.slice A o.n cap, .int .u8 x] w fun e w' => e = .returned (.bool true) ∧ Below w.heap.size w w' := by
  obtain ⟨k, rfl, hk⟩ := u8_nat hx
  by_cases h : lCode o = 0
  · by_cases hf : Fin o (lineB o) 0 (-1) ∧ 0 < o.n
    · exact lineReads_some o (lCode_ok h) hf.1 hf.2 A cap k w hcap (ops_in (Nat.le_refl _) hr) hr hk
    · exact lineReads_not o (lCode_ok h) hf A cap k w hcap (ops_in (Nat.le_refl _) hr)
  · exact lineReads_bad o h A cap k w hcap (ops_in (Nat.le_refl _) hr)
end Go.Proofs.Ythlpfacgdhdpiaa
