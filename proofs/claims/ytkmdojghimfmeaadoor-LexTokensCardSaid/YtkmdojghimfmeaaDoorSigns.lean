/-
  The operators of package lex: the contract of signs, and what the first operator that a text begins with says.
-/
import Derived.Test.YtkmdojghimfmeaaDoorLexNum
import Derived.Deep.WholeRow
namespace Go.Proofs.YtkmdojghimfmeaaDoor
open Go.RowKit

def sgL : Nat → List UInt8
  | 0 => [59, 59]
  | 1 => [124, 124]
  | 2 => [38, 38]
  | 3 => [61, 61]
  | 4 => [46, 91]
  | 5 => [58, 61]
  | 6 => [45, 62]
  | 7 => [40]
  | 8 => [41]
  | 9 => [93]
  | 10 => [59]
  | 11 => [44]
  | 12 => [124]
  | 13 => [61]
  | 14 => [60]
  | 15 => [43]
  | 16 => [45]
  | 17 => [42]
  | 18 => [33]
  | _ => []
def sgB (k : Nat) : ByteArray := ⟨(sgL k).toArray⟩
def sgV : Array Value := #[.string ⟨#[59, 59]⟩, .string ⟨#[124, 124]⟩, .string ⟨#[38, 38]⟩, .string ⟨#[61, 61]⟩, .string ⟨#[46, 91]⟩, .string ⟨#[58, 61]⟩, .string ⟨#[45, 62]⟩, .string ⟨#[40]⟩, .string ⟨#[41]⟩, .string ⟨#[93]⟩, .string ⟨#[59]⟩, .string ⟨#[44]⟩, .string ⟨#[124]⟩, .string ⟨#[61]⟩, .string ⟨#[60]⟩, .string ⟨#[43]⟩, .string ⟨#[45]⟩, .string ⟨#[42]⟩, .string ⟨#[33]⟩]
theorem sg_index0 (w : World) : (Instr.index 56 (.agg sgV) (.int .i64 0)).run Tryd.prog w = .ok (.string (sgB 0)) w := by kernel_rfl
theorem sg_index1 (w : World) : (Instr.index 56 (.agg sgV) (.int .i64 1)).run Tryd.prog w = .ok (.string (sgB 1)) w := by kernel_rfl
theorem sg_index2 (w : World) : (Instr.index 56 (.agg sgV) (.int .i64 2)).run Tryd.prog w = .ok (.string (sgB 2)) w := by kernel_rfl
theorem sg_index3 (w : World) : (Instr.index 56 (.agg sgV) (.int .i64 3)).run Tryd.prog w = .ok (.string (sgB 3)) w := by kernel_rfl
theorem sg_index4 (w : World) : (Instr.index 56 (.agg sgV) (.int .i64 4)).run Tryd.prog w = .ok (.string (sgB 4)) w := by kernel_rfl
theorem sg_index5 (w : World) : (Instr.index 56 (.agg sgV) (.int .i64 5)).run Tryd.prog w = .ok (.string (sgB 5)) w := by kernel_rfl
theorem sg_index6 (w : World) : (Instr.index 56 (.agg sgV) (.int .i64 6)).run Tryd.prog w = .ok (.string (sgB 6)) w := by kernel_rfl
theorem sg_index7 (w : World) : (Instr.index 56 (.agg sgV) (.int .i64 7)).run Tryd.prog w = .ok (.string (sgB 7)) w := by kernel_rfl
theorem sg_index8 (w : World) : (Instr.index 56 (.agg sgV) (.int .i64 8)).run Tryd.prog w = .ok (.string (sgB 8)) w := by kernel_rfl
theorem sg_index9 (w : World) : (Instr.index 56 (.agg sgV) (.int .i64 9)).run Tryd.prog w = .ok (.string (sgB 9)) w := by kernel_rfl
theorem sg_index10 (w : World) : (Instr.index 56 (.agg sgV) (.int .i64 10)).run Tryd.prog w = .ok (.string (sgB 10)) w := by kernel_rfl
theorem sg_index11 (w : World) : (Instr.index 56 (.agg sgV) (.int .i64 11)).run Tryd.prog w = .ok (.string (sgB 11)) w := by kernel_rfl
theorem sg_index12 (w : World) : (Instr.index 56 (.agg sgV) (.int .i64 12)).run Tryd.prog w = .ok (.string (sgB 12)) w := by kernel_rfl
theorem sg_index13 (w : World) : (Instr.index 56 (.agg sgV) (.int .i64 13)).run Tryd.prog w = .ok (.string (sgB 13)) w := by kernel_rfl
theorem sg_index14 (w : World) : (Instr.index 56 (.agg sgV) (.int .i64 14)).run Tryd.prog w = .ok (.string (sgB 14)) w := by kernel_rfl
theorem sg_index15 (w : World) : (Instr.index 56 (.agg sgV) (.int .i64 15)).run Tryd.prog w = .ok (.string (sgB 15)) w := by kernel_rfl
theorem sg_index16 (w : World) : (Instr.index 56 (.agg sgV) (.int .i64 16)).run Tryd.prog w = .ok (.string (sgB 16)) w := by kernel_rfl
theorem sg_index17 (w : World) : (Instr.index 56 (.agg sgV) (.int .i64 17)).run Tryd.prog w = .ok (.string (sgB 17)) w := by kernel_rfl
theorem sg_index18 (w : World) : (Instr.index 56 (.agg sgV) (.int .i64 18)).run Tryd.prog w = .ok (.string (sgB 18)) w := by kernel_rfl
theorem sg_cases {k : Nat} (h : k < 19) : k = 0 ∨ k = 1 ∨ k = 2 ∨ k = 3 ∨ k = 4 ∨ k = 5 ∨ k = 6 ∨ k = 7 ∨ k = 8 ∨ k = 9 ∨ k = 10 ∨ k = 11 ∨ k = 12 ∨ k = 13 ∨ k = 14 ∨ k = 15 ∨ k = 16 ∨ k = 17 ∨ k = 18 := by omega
theorem sg_index (k : Nat) (h : k < 19) (w : World) : (Instr.index 56 (.agg sgV) (.int .i64 (k : Int))).run Tryd.prog w = .ok (.string (sgB k)) w := by
  rcases sg_cases h with rfl | rfl | rfl | rfl | rfl | rfl | rfl | rfl | rfl | rfl | rfl | rfl | rfl | rfl | rfl | rfl | rfl | rfl | rfl
  · exact sg_index0 w
  · exact sg_index1 w
  · exact sg_index2 w
  · exact sg_index3 w
  · exact sg_index4 w
  · exact sg_index5 w
  · exact sg_index6 w
  · exact sg_index7 w
  · exact sg_index8 w
  · exact sg_index9 w
  · exact sg_index10 w
  · exact sg_index11 w
  · exact sg_index12 w
  · exact sg_index13 w
  · exact sg_index14 w
  · exact sg_index15 w
  · exact sg_index16 w
  · exact sg_index17 w
  · exact sg_index18 w

theorem wpList_build_to {P : Program} {ops : Array Oper} {rest : List Oper} {o : Oper} {a : Act} {w : World} {Q : Exit → Act → World → Prop} (hg : o.guard = none) (t : TypeId) (parts : Array (Nat × Operand)) (ho : o.op = .build t parts) (cells : Array Value)
    (hf : P.built t (parts.map fun (i, x) => (i, a.eval x)).toList = some cells)
    (h : wpList P ops Q rest (a.put o.dst (.agg cells)) w) : wpList P ops Q (o :: rest) a w :=
  wpList_build hg t parts ho (by rw [hf]; rfl) (by rw [hf]; exact h)
theorem results_cell {fn : Func} {p : Tmp} {ty : TypeId} (h : fn.results = #[.cell p ty]) {tmps : Array Value} {P : Program} {w : World} {a : Addr} {v : Value} (hp : tmps.getD p undef = .pointer (some a)) (hl : (loadVar ty a).run P w = .ok v w) :
    (results fn tmps).run P w = .ok v w := by
  simp only [results, h]
  simp only [Array.getD_eq_getD_getElem?] at hp
  simp [hp, hl, asAddr]
theorem signs_any (w : World) : Calls Tryd.prog 33 #[] w fun e w' => e = .returned (.agg sgV) ∧ Below w.heap.size w w' := by
  go_enter Tryd.func33, Tryd.ntmps33
  go_wp2_with (refine wpList_build_to rfl 56 _ rfl sgV (by kernel_rfl) ?_; refine wpList_store_row rfl 56 _ _ rfl w.heap.size sgV rfl rfl 56 _ (heap_alloc_last w _) (by kernel_rfl) (by kernel_rfl) (by kernel_rfl) ?_; rw [World.setRow_alloc_new])
  have h := run_loadVar_new (P := Tryd.prog) w 56 sgV 19 9 Tryd.underlying56 (by kernel_rfl)
  exact bodyPost_ret (v := .agg sgV) (results_cell rfl rfl h) rfl ⟨rfl, (Below.refl _ _).alloc (Nat.le_refl _) _⟩

/-! ### What the first operator says -/
theorem pre1 (x c : UInt8) (r : List UInt8) : [x].isPrefixOf (c :: r) = (c == x) := by
  simp only [List.isPrefixOf, Bool.and_true]
  exact Bool.beq_comm
theorem pre2 (x y c d : UInt8) (r : List UInt8) : [x, y].isPrefixOf (c :: d :: r) = (c == x && d == y) := by
  simp only [List.isPrefixOf, Bool.and_true]
  rw [Bool.beq_comm (a := x), Bool.beq_comm (a := y)]
theorem pre2_one (x y c : UInt8) : [x, y].isPrefixOf [c] = false := by simp [List.isPrefixOf]
theorem sg_two {k : Nat} (hk : k < 7) {c d : UInt8} {r : List UInt8} (h : (sgL k).isPrefixOf (c :: d :: r) = true) : Lx.two c d = true ∧ sgL k = [c, d] := by
  rcases (by omega : k = 0 ∨ k = 1 ∨ k = 2 ∨ k = 3 ∨ k = 4 ∨ k = 5 ∨ k = 6) with rfl | rfl | rfl | rfl | rfl | rfl | rfl
  all_goals
    simp only [sgL, pre2, Bool.and_eq_true, beq_iff_eq] at h
    obtain ⟨rfl, rfl⟩ := h
    exact ⟨by decide, rfl⟩
theorem sg_two_one {k : Nat} (hk : k < 7) {c : UInt8} : (sgL k).isPrefixOf [c] = false := by
  rcases (by omega : k = 0 ∨ k = 1 ∨ k = 2 ∨ k = 3 ∨ k = 4 ∨ k = 5 ∨ k = 6) with rfl | rfl | rfl | rfl | rfl | rfl | rfl
  all_goals exact pre2_one _ _ _
theorem sg_one {k : Nat} (hk : 7 ≤ k) (hk2 : k < 19) {c : UInt8} {r : List UInt8} (h : (sgL k).isPrefixOf (c :: r) = true) : Lx.one c = true ∧ sgL k = [c] := by
  rcases (by omega : k = 7 ∨ k = 8 ∨ k = 9 ∨ k = 10 ∨ k = 11 ∨ k = 12 ∨ k = 13 ∨ k = 14 ∨ k = 15 ∨ k = 16 ∨ k = 17 ∨ k = 18) with rfl | rfl | rfl | rfl | rfl | rfl | rfl | rfl | rfl | rfl | rfl | rfl
  all_goals
    simp only [sgL, pre1, beq_iff_eq] at h
    obtain rfl := h
    exact ⟨by decide, rfl⟩
theorem sg_no_two {c d : UInt8} {r : List UInt8} (h : ∀ j, j < 7 → (sgL j).isPrefixOf (c :: d :: r) = false) : Lx.two c d = false := by
  have h0 := h 0 (by omega)
  have h1 := h 1 (by omega)
  have h2 := h 2 (by omega)
  have h3 := h 3 (by omega)
  have h4 := h 4 (by omega)
  have h5 := h 5 (by omega)
  have h6 := h 6 (by omega)
  simp only [sgL, pre2] at h0 h1 h2 h3 h4 h5 h6
  unfold Lx.two
  rw [h0, h1, h2, h3, h4, h5, h6]
  rfl
theorem sg_no_one {c : UInt8} {r : List UInt8} (h : ∀ j, 7 ≤ j → j < 19 → (sgL j).isPrefixOf (c :: r) = false) : Lx.one c = false := by
  have h7 := h 7 (by omega) (by omega)
  have h8 := h 8 (by omega) (by omega)
  have h9 := h 9 (by omega) (by omega)
  have h10 := h 10 (by omega) (by omega)
  have h11 := h 11 (by omega) (by omega)
  have h12 := h 12 (by omega) (by omega)
  have h13 := h 13 (by omega) (by omega)
  have h14 := h 14 (by omega) (by omega)
  have h15 := h 15 (by omega) (by omega)
  have h16 := h 16 (by omega) (by omega)
  have h17 := h 17 (by omega) (by omega)
  have h18 := h 18 (by omega) (by omega)
  simp only [sgL, pre1] at h7 h8 h9 h10 h11 h12 h13 h14 h15 h16 h17 h18
  unfold Lx.one
  rw [h7, h8, h9, h10, h11, h12, h13, h14, h15, h16, h17, h18]
  rfl

theorem sg_found {l : List UInt8} (hl : l ≠ []) {k : Nat} (hk : k < 19) (h : (sgL k).isPrefixOf l = true) (hb : ∀ j, j < k → (sgL j).isPrefixOf l = false) : Lx.signLen l ≠ 0 ∧ l.take (Lx.signLen l) = sgL k := by
  match l, hl with
  | [c], _ =>
    by_cases h7 : k < 7
    · rw [sg_two_one h7] at h; cases h
    · obtain ⟨h1, h2⟩ := sg_one (by omega) hk h
      simp [Lx.signLen, h1, h2]
  | c :: d :: r, _ =>
    by_cases h7 : k < 7
    · obtain ⟨h1, h2⟩ := sg_two h7 h
      simp [Lx.signLen, h1, h2]
    · have h0 := sg_no_two fun j hj => hb j (by omega)
      obtain ⟨h1, h2⟩ := sg_one (by omega) hk h
      simp [Lx.signLen, h0, h1, h2]
theorem sg_none {l : List UInt8} (hl : l ≠ []) (hb : ∀ j, j < 19 → (sgL j).isPrefixOf l = false) : Lx.signLen l = 0 := by
  match l, hl with
  | [c], _ =>
    have h1 := sg_no_one fun j _ hj => hb j hj
    simp [Lx.signLen, h1]
  | c :: d :: r, _ =>
    have h0 := sg_no_two fun j hj => hb j (by omega)
    have h1 := sg_no_one fun j _ hj => hb j hj
    simp [Lx.signLen, h0, h1]
end Go.Proofs.YtkmdojghimfmeaaDoor
