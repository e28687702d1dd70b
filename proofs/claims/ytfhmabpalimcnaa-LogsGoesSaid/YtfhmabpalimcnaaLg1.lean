/- The layout of logs; the walks of 'last', 'good', 'lead'. -/
import Derived.Test.YtfhmabpalimcnaaLgMath
import Derived.Test.YtfhmabpalimcnaaEl2
import Derived.Test.YtfhmabpalimcnaaRepI
set_option linter.unusedVariables false
set_option linter.unusedSimpArgs false
namespace Go.Proofs.Ytfhmabpalimcnaa
open Go.RowKit

def entF (l : List Ent) (j : Nat) : Value := if j % 2 = 0 then .int .i64 (trm l (j / 2) : Nat) else .int .i64 ((l[j / 2]?).getD (0, 0)).2
/-- Where the rows lie. -/
structure LA where
  A : Nat → Option Addr
  c : Nat → Nat
  hA : Nat → Option Addr
  hn : Nat → Nat
  hc : Nat → Nat
  nA : Nat → Option Addr
  nn : Nat → Nat
  nc : Nat → Nat
def LdOk (n : Nat) (a : LA) (s : LS) : Prop := ∀ i, s.ld i = true → a.hn i = n ∧ a.nn i = n
abbrev lgRow (a : LA) (s : LS) (i : Nat) : LRow := ⟨a.A i, 35, 2, (s.lg i).length, a.c i, entF (s.lg i)⟩
abbrev haRow (a : LA) (s : LS) (i : Nat) : LRow := ⟨a.hA i, 3, 1, a.hn i, a.hc i, fun j => .int .i64 (s.ha i j : Nat)⟩
abbrev nxRow (a : LA) (s : LS) (i : Nat) : LRow := ⟨a.nA i, 3, 1, a.nn i, a.nc i, fun j => .int .i64 (s.nx i j : Nat)⟩
def famR (a : LA) (s : LS) (m : Nat) : LRow := if m % 3 = 0 then lgRow a s (m / 3) else if m % 3 = 1 then haRow a s (m / 3) else nxRow a s (m / 3)
def lgF (a : LA) (s : LS) (j : Nat) : Value := if j % 4 = 0 then .slice (a.A (j / 4)) (s.lg (j / 4)).length (a.c (j / 4)) else if j % 4 = 1 then .int .i64 (s.su (j / 4) : Nat) else if j % 4 = 2 then .slice (a.hA (j / 4)) (a.hn (j / 4)) (a.hc (j / 4)) else .slice (a.nA (j / 4)) (a.nn (j / 4)) (a.nc (j / 4))
abbrev tailG (gg g lo n : Nat) (F : Nat → Value) (fr : Nat → LRow) (R : List LRow) : List LRow :=
  blk gg 47 2 (ofL [.pointer (some ⟨g, 0, none⟩), .slice (some ⟨lo, 0, none⟩) n n]) :: ⟨some ⟨lo, 0, none⟩, 50, 4, n, n, F⟩ :: ((List.range (3 * n)).map fr ++ R)
abbrev rowsF (gg g gl lo n : Nat) (e : ES) (A : Option Addr) (cap : Nat) (F : Nat → Value) (fr : Nat → LRow) (R : List LRow) : List LRow := rowsE g gl n e A cap (tailG gg g lo n F fr R)
abbrev rowsG (gg g gl lo n : Nat) (s : LS) (A : Option Addr) (cap : Nat) (a : LA) (R : List LRow) : List LRow := rowsF gg g gl lo n s.e A cap (lgF a s) (famR a s) R

theorem lgF_0 (a : LA) (s : LS) (i : Nat) : lgF a s (i * 4) = .slice (a.A i) (s.lg i).length (a.c i) := by
  have h1 : i * 4 % 4 = 0 := by omega
  have h2 : i * 4 / 4 = i := by omega
  simp [lgF, h1, h2]
theorem lgF_1 (a : LA) (s : LS) (i : Nat) : lgF a s (i * 4 + 1) = .int .i64 (s.su i : Nat) := by
  have h1 : (i * 4 + 1) % 4 = 1 := by omega
  have h2 : (i * 4 + 1) / 4 = i := by omega
  simp [lgF, h1, h2]
theorem lgF_2 (a : LA) (s : LS) (i : Nat) : lgF a s (i * 4 + 2) = .slice (a.hA i) (a.hn i) (a.hc i) := by
  have h1 : (i * 4 + 2) % 4 = 2 := by omega
  have h2 : (i * 4 + 2) / 4 = i := by omega
  simp [lgF, h1, h2]
theorem lgF_3 (a : LA) (s : LS) (i : Nat) : lgF a s (i * 4 + 3) = .slice (a.nA i) (a.nn i) (a.nc i) := by
  have h1 : (i * 4 + 3) % 4 = 3 := by omega
  have h2 : (i * 4 + 3) / 4 = i := by omega
  simp [lgF, h1, h2]
theorem entF_0 (l : List Ent) (k : Nat) : entF l (k * 2) = .int .i64 (trm l k : Nat) := by
  have h1 : k * 2 % 2 = 0 := by omega
  have h2 : k * 2 / 2 = k := by omega
  simp [entF, h1, h2]
theorem entF_1 (l : List Ent) (k : Nat) : entF l (k * 2 + 1) = .int .i64 ((l[k]?).getD (0, 0)).2 := by
  have h1 : (k * 2 + 1) % 2 = 1 := by omega
  have h2 : (k * 2 + 1) / 2 = k := by omega
  simp [entF, h1, h2]
theorem famR_0 (a : LA) (s : LS) (i : Nat) : famR a s (i * 3) = lgRow a s i := by
  have h1 : i * 3 % 3 = 0 := by omega
  have h2 : i * 3 / 3 = i := by omega
  simp only [famR, h1, h2]; rfl
theorem famR_1 (a : LA) (s : LS) (i : Nat) : famR a s (i * 3 + 1) = haRow a s i := by
  have h1 : (i * 3 + 1) % 3 = 1 := by omega
  have h2 : (i * 3 + 1) / 3 = i := by omega
  simp only [famR, h1, h2]; rfl
theorem famR_2 (a : LA) (s : LS) (i : Nat) : famR a s (i * 3 + 2) = nxRow a s i := by
  have h1 : (i * 3 + 2) % 3 = 2 := by omega
  have h2 : (i * 3 + 2) / 3 = i := by omega
  simp only [famR, h1, h2]; rfl
theorem fam_upd {a a' : LA} {s s' : LS} {i c : Nat} (hc : c < 3) (h0 : ∀ j, lgRow a' s' j = lgRow a s j ∨ (c = 0 ∧ j = i)) (h1 : ∀ j, haRow a' s' j = haRow a s j ∨ (c = 1 ∧ j = i)) (h2 : ∀ j, nxRow a' s' j = nxRow a s j ∨ (c = 2 ∧ j = i)) : ∀ m, m ≠ i * 3 + c → famR a' s' m = famR a s m := by
  intro m hm
  unfold famR
  have x0 := h0 (m / 3)
  have x1 := h1 (m / 3)
  have x2 := h2 (m / 3)
  split
  · rcases x0 with x | ⟨x, y⟩
    · exact x
    · omega
  split
  · rcases x1 with x | ⟨x, y⟩
    · exact x
    · omega
  · rcases x2 with x | ⟨x, y⟩
    · exact x
    · omega
theorem lgF_upd {a a' : LA} {s s' : LS} {i c : Nat} (h0 : ∀ j, (a'.A j = a.A j ∧ (s'.lg j).length = (s.lg j).length ∧ a'.c j = a.c j) ∨ (c = 0 ∧ j = i)) (h1 : ∀ j, s'.su j = s.su j ∨ (c = 1 ∧ j = i)) (h2 : ∀ j, (a'.hA j = a.hA j ∧ a'.hn j = a.hn j ∧ a'.hc j = a.hc j) ∨ (c = 2 ∧ j = i)) (h3 : ∀ j, (a'.nA j = a.nA j ∧ a'.nn j = a.nn j ∧ a'.nc j = a.nc j) ∨ (c = 3 ∧ j = i)) : ∀ m, m ≠ i * 4 + c → lgF a' s' m = lgF a s m := by
  intro m hm
  unfold lgF
  have x0 := h0 (m / 4)
  have x1 := h1 (m / 4)
  have x2 := h2 (m / 4)
  have x3 := h3 (m / 4)
  split
  · rcases x0 with ⟨x, y, z⟩ | ⟨x, y⟩
    · rw [x, y, z]
    · omega
  split
  · rcases x1 with x | ⟨x, y⟩
    · rw [x]
    · omega
  split
  · rcases x2 with ⟨x, y, z⟩ | ⟨x, y⟩
    · rw [x, y, z]
    · omega
  · rcases x3 with ⟨x, y, z⟩ | ⟨x, y⟩
    · rw [x, y, z]
    · omega
theorem Lay.repl {w0 w : World} {r : LRow} {L : List LRow} (h : Lay w0 w (r :: L)) (k : Nat) : Lay w0 w (L.set k r) := by
  refine h.pick (fun i => if i = k then 0 else i + 1) (fun i j _ _ hij => ?_) fun i hi => ?_
  · by_cases e1 : i = k <;> by_cases e2 : j = k <;> simp [e1, e2] at hij <;> omega
  · rw [List.length_set] at hi
    rw [List.getElem?_set]
    by_cases e : i = k
    · subst e; simp [hi]
    · rw [if_neg (fun h => e h.symm), if_neg e, List.getElem?_cons_succ]
section
variable {gg g gl lo n : Nat} {e : ES} {s : LS} {A : Option Addr} {cap : Nat} {a : LA} {R : List LRow} {F : Nat → Value} {fr : Nat → LRow} {w0 w : World}
theorem lg_get {m : Nat} (hm : m < 3 * n) : (rowsF gg g gl lo n e A cap F fr R)[5 + m]? = some (fr m) := by
  show (blk _ _ _ _ :: oneR gl n e :: ledR A cap e.led :: blk _ _ _ _ :: _ :: ((List.range (3 * n)).map fr ++ R))[5 + m]? = _
  rw [show 5 + m = m + 1 + 1 + 1 + 1 + 1 by omega]
  simp only [List.getElem?_cons_succ]
  rw [List.getElem?_append_left (by simpa using hm)]
  simp [hm]
theorem range_set {fr : Nat → LRow} {k m : Nat} {r : LRow} : ((List.range k).map fr).set m r = (List.range k).map (fun j => if j = m then r else fr j) := by
  refine List.ext_getElem? fun j => ?_
  rw [List.getElem?_set, List.getElem?_map, List.getElem?_map, List.length_map, List.length_range]
  by_cases e : m = j
  · subst e
    rw [if_pos rfl]
    by_cases h : m < k
    · rw [if_pos h, List.getElem?_range h]; simp
    · rw [if_neg h, List.getElem?_eq_none (by simpa using h)]; rfl
  · rw [if_neg e]
    by_cases h : j < k
    · rw [List.getElem?_range h]; simp [show ¬ j = m from fun h => e h.symm]
    · rw [List.getElem?_eq_none (by simpa using h)]; rfl
theorem lg_setr {m : Nat} (hm : m < 3 * n) {r : LRow} {fr' : Nat → LRow} (h1 : fr' m = r) (h2 : ∀ j, j ≠ m → fr' j = fr j) : (rowsF gg g gl lo n e A cap F fr R).set (5 + m) r = rowsF gg g gl lo n e A cap F fr' R := by
  show (blk _ _ _ _ :: oneR gl n e :: ledR A cap e.led :: blk _ _ _ _ :: _ :: ((List.range (3 * n)).map fr ++ R)).set (5 + m) r = _
  rw [show 5 + m = m + 1 + 1 + 1 + 1 + 1 by omega]
  simp only [List.set_cons_succ]
  rw [List.set_append_left _ _ (by simpa using hm), range_set]
  have : (fun j => if j = m then r else fr j) = fr' := by
    funext j
    by_cases e : j = m
    · rw [if_pos e, e, h1]
    · rw [if_neg e, h2 j e]
  rw [this]
theorem lg_fam {m : Nat} {r : LRow} {fr' : Nat → LRow} (h : Lay w0 w (r :: rowsF gg g gl lo n e A cap F fr R)) (hm : m < 3 * n) (h1 : fr' m = r) (h2 : ∀ j, j ≠ m → fr' j = fr j) : Lay w0 w (rowsF gg g gl lo n e A cap F fr' R) := lg_setr hm h1 h2 ▸ h.repl (5 + m)
theorem lg_setF {c i : Nat} (hc : c < 4) {F' : Nat → Value} {u : Value} (h : Lay w0 w (rowsF gg g gl lo n e A cap F fr R)) (hi : i < n) (hu : F' (i * 4 + c) = u) (hf : ∀ j, j ≠ i * 4 + c → F' j = F j) : Lay w0 (w.setCell ⟨lo, i * 4 + c, none⟩ u) (rowsF gg g gl lo n e A cap F' fr R) :=
  h.set 4 F' rfl (j := i * 4 + c) (by omega) hu (fun j _ hj => hf j hj)
theorem lg_cells {i : Nat} (h : Lay w0 w (rowsG gg g gl lo n s A cap a R)) (hi : i < n) :
    w.cell? ⟨lo, i * 4, none⟩ = some (.slice (a.A i) (s.lg i).length (a.c i)) ∧ w.cell? ⟨lo, i * 4 + 1, none⟩ = some (.int .i64 (s.su i : Nat)) ∧ w.cell? ⟨lo, i * 4 + 2, none⟩ = some (.slice (a.hA i) (a.hn i) (a.hc i)) ∧ w.cell? ⟨lo, i * 4 + 3, none⟩ = some (.slice (a.nA i) (a.nn i) (a.nc i)) :=
  ⟨(h.cell 4 rfl (j := i * 4) (by omega)).trans (by rw [lgF_0]), (h.cell 4 rfl (j := i * 4 + 1) (by omega)).trans (by rw [lgF_1]), (h.cell 4 rfl (j := i * 4 + 2) (by omega)).trans (by rw [lgF_2]), (h.cell 4 rfl (j := i * 4 + 3) (by omega)).trans (by rw [lgF_3])⟩
theorem lg_heads (h : Lay w0 w (rowsG gg g gl lo n s A cap a R)) : w.cell? ⟨gg, 0, none⟩ = some (.pointer (some ⟨g, 0, none⟩)) ∧ w.cell? ⟨gg, 1, none⟩ = some (.slice (some ⟨lo, 0, none⟩) n n) := ⟨h.cellB 3 rfl 0 (by omega), h.cellB 3 rfl 1 (by omega)⟩
theorem lg_frz (h : Lay w0 w (rowsG gg g gl lo n s A cap a R)) (hn : 0 < n) (o : Nat) : w.frozen? ⟨lo, o, none⟩ = false := h.frz 4 rfl hn o
theorem lg_own {i : Nat} (h : Lay w0 w (rowsG gg g gl lo n s A cap a R)) (hi : i < n) : Own w w0.heap.size 35 2 (a.A i) (s.lg i).length (a.c i) (entF (s.lg i)) ∧ Own w w0.heap.size 3 1 (a.hA i) (a.hn i) (a.hc i) (fun j => .int .i64 (s.ha i j : Nat)) ∧ Own w w0.heap.size 3 1 (a.nA i) (a.nn i) (a.nc i) (fun j => .int .i64 (s.nx i j : Nat)) := by
  have h0 := h.own _ _ (lg_get (m := i * 3) (by omega))
  have h1 := h.own _ _ (lg_get (m := i * 3 + 1) (by omega))
  have h2 := h.own _ _ (lg_get (m := i * 3 + 2) (by omega))
  rw [famR_0] at h0
  rw [famR_1] at h1
  rw [famR_2] at h2
  exact ⟨h0, h1, h2⟩
/-- An entry of a log. -/
theorem lg_ent {i k : Nat} (h : Lay w0 w (rowsG gg g gl lo n s A cap a R)) (hi : i < n) (hk : k < (s.lg i).length) : ∃ b, a.A i = some ⟨b, 0, none⟩ ∧ b < w.heap.size ∧ w.cell? ⟨b, k * 2, none⟩ = some (.int .i64 (trm (s.lg i) k : Nat)) ∧ w.cell? ⟨b, k * 2 + 1, none⟩ = some (.int .i64 (((s.lg i)[k]?).getD (0, 0)).2) := by
  obtain ⟨b, e1, _, e3, e4, _⟩ := (lg_own h hi).1.pos (by omega)
  exact ⟨b, e1, e3, (e4 (k * 2) (by omega)).trans (by rw [entF_0]), (e4 (k * 2 + 1) (by omega)).trans (by rw [entF_1])⟩
end

section
variable (gg g gl lo n : Nat) (s : LS) (A : Option Addr) (cap : Nat) (a : LA) (R : List LRow) (w0 w : World)
set_option maxRecDepth 100000 in
set_option maxHeartbeats 1000000 in
theorem last_any (i : Nat) (hi : i < n) (hl : (s.lg i).length ≤ 30) (h : Lay w0 w (rowsG gg g gl lo n s A cap a R)) :
    Calls Try.prog 33 #[.pointer (some ⟨lo, i * 4, none⟩)] w fun e w' => e = .returned (.tuple #[.int .i64 (lastT (s.lg i) : Nat), .int .i64 ((s.lg i).length : Nat)]) ∧ Lay w0 w' (rowsG gg g gl lo n s A cap a R) := by
  have H := Lib.hid h; clear h
  obtain ⟨d0, d1⟩ := lg_heads H.out
  obtain ⟨c0, c1, c2, c3⟩ := lg_cells H.out (i := i) hi
  obtain ⟨L, hL⟩ : ∃ L, (s.lg i).length = L := ⟨_, rfl⟩
  rw [hL] at c0 hl
  have HT := Lib.hid (show lastT (s.lg i) = if L = 0 then 0 else trm (s.lg i) (L - 1) by rw [← hL]; rfl)
  by_cases h0 : L = 0
  · subst h0
    have HT0 := HT.out
    rw [if_pos rfl] at HT0
    have HZ := Lib.hid (And.intro HT0 hL)
    clear HT0 hL HT
    go_enter Try.func33, Try.ntmps33
    go_wp2
    exact bodyPost_ret (v := .tuple #[.int .i64 (0 : Nat), .int .i64 (0 : Nat)]) (by simp [results, Try.results33, go_sem]) rfl ⟨by rw [HZ.out.1, HZ.out.2], H.out⟩
  · obtain ⟨b, hb, hbl, e0, e1⟩ := lg_ent H.out hi (k := L - 1) (by omega)
    have HZ := Lib.hid (And.intro (HT.out.trans (if_neg h0)) hL)
    rw [hb] at c0
    clear HT hL hb
    obtain ⟨T, hT⟩ : ∃ T, trm (s.lg i) (L - 1) = T := ⟨_, rfl⟩
    rw [hT] at e0 HZ
    clear hT
    obtain ⟨m, rfl⟩ : ∃ m, L = m + 1 := ⟨L - 1, by omega⟩
    rw [Nat.add_sub_cancel] at e0 e1
    have hz : (((m + 1 : Nat) : Int) == 0) = false := by simp; omega
    go_enter Try.func33, Try.ntmps33
    go_wp2
    refine wp_text_all (by kernel_rfl) (by kernel_rfl) (by kernel_rfl) (by repeat' (first | (with_reducible apply tame_then) | (with_reducible apply tame_block) | (with_reducible apply tame_scope) | exact tame_gives | exact tame_body (fun _ _ h => ⟨_, h.1⟩))) ?_
    go_wp2
    refine headed ?_
    go_wp2
    exact bodyPost_ret (v := .tuple #[.int .i64 (T : Nat), .int .i64 ((m + 1 : Nat))]) (by simp [results, Try.results33, go_sem]) rfl ⟨by rw [HZ.out.1, HZ.out.2], H.out.drew⟩
end
end Go.Proofs.Ytfhmabpalimcnaa
