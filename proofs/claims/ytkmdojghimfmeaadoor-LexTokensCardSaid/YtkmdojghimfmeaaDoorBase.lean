/-
  The contracts of the small functions: letter, digit, within (of package lex), class and Blank (of the reference).
-/
import Derived.Test.YtkmdojghimfmeaaDoorProg
import Derived.Test.YtkmdojghimfmeaaDoorNums
import Derived.WalkKit
import Derived.Below
import Derived.Outline
import Derived.Lib.Hide
namespace Go.Proofs.YtkmdojghimfmeaaDoor
open Go.RowKit

namespace Lx
def letterI (r : Int) : Bool := decide (97 ≤ r ∧ r ≤ 122 ∨ 65 ≤ r ∧ r ≤ 90)
def digitI (r : Int) : Bool := decide (48 ≤ r ∧ r ≤ 57)
def withinI (r : Int) : Bool := decide ((97 ≤ r ∧ r ≤ 122 ∨ 65 ≤ r ∧ r ≤ 90) ∨ (48 ≤ r ∧ r ≤ 57) ∨ r = 95)
def clsI (n : Int) : Int := if 97 ≤ n ∧ n ≤ 122 ∨ 65 ≤ n ∧ n ≤ 90 then 1 else if 48 ≤ n ∧ n ≤ 57 then 2 else if n = 95 then 3 else if n = 9 ∨ n = 10 ∨ n = 32 then 4 else 0
end Lx

theorem ret_int {k : IntKind} {a b : Int} (h : a = b) : Ending.returned (.int k a) = .returned (.int k b) := by rw [h]
theorem ret_bool {a b : Bool} (h : a = b) : Ending.returned (.bool a) = .returned (.bool b) := by rw [h]

theorem letter_any (r : Int) (w : World) : Calls Tryd.prog 28 #[.int .i32 r] w fun e w' => e = .returned (.bool (Lx.letterI r)) ∧ w = w' := by
  go_enter Tryd.func28, Tryd.ntmps28
  go_wp2
  all_goals
    go_ret
    exact ⟨ret_bool (by unfold Lx.letterI; rw [Bool.eq_iff_iff]; simp; omega), rfl⟩
theorem digit_any (r : Int) (w : World) : Calls Tryd.prog 31 #[.int .i32 r] w fun e w' => e = .returned (.bool (Lx.digitI r)) ∧ w = w' := by
  go_enter Tryd.func31, Tryd.ntmps31
  go_wp2
  all_goals
    go_ret
    exact ⟨ret_bool (by unfold Lx.digitI; rw [Bool.eq_iff_iff]; simp; omega), rfl⟩
theorem within_any (r : Int) (w : World) : Calls Tryd.prog 30 #[.int .i32 r] w fun e w' => e = .returned (.bool (Lx.withinI r)) ∧ w = w' := by
  go_enter Tryd.func30, Tryd.ntmps30
  go_wp2_with (first | (go_at_call 28; refine (letter_any _ _).mono ?_; rintro e w' ⟨rfl, rfl⟩) | (go_at_call 31; refine (digit_any _ _).mono ?_; rintro e w' ⟨rfl, rfl⟩))
  · have h : Lx.letterI r = true := by assumption
    go_ret
    exact ⟨ret_bool (by unfold Lx.withinI; unfold Lx.letterI at h; have h := of_decide_eq_true h; exact (decide_eq_true (by omega)).symm), rfl⟩
  · have h : Lx.digitI r = true := by assumption
    go_ret
    exact ⟨ret_bool (by unfold Lx.withinI; unfold Lx.digitI at h; have h := of_decide_eq_true h; exact (decide_eq_true (by omega)).symm), rfl⟩
  · have h1 : ¬ Lx.letterI r = true := by assumption
    have h2 : ¬ Lx.digitI r = true := by assumption
    go_ret
    refine ⟨ret_bool ?_, rfl⟩
    unfold Lx.letterI at h1
    unfold Lx.digitI at h2
    unfold Lx.withinI
    simp only [decide_eq_true_eq] at h1 h2
    rw [Bool.eq_iff_iff]
    simp only [beq_iff_eq, decide_eq_true_eq]
    omega
theorem class_any (n : Int) (w : World) : Calls Tryd.prog 20 #[.int .u8 n] w fun e w' => e = .returned (.int .i64 (Lx.clsI n)) ∧ w = w' := by
  go_enter Tryd.func20, Tryd.ntmps20
  go_wp2
  all_goals
    go_ret
    refine ⟨ret_int ?_, rfl⟩
    try simp only [beq_iff_eq, beq_eq_false_iff_ne, ne_eq] at *
    unfold Lx.clsI
    repeat' split
    all_goals omega
theorem blank_any (n : Int) (w : World) : Calls Tryd.prog 15 #[.int .u8 n] w fun e w' => e = .returned (.bool (Lx.clsI n == 4)) ∧ w = w' := by
  go_enter Tryd.func15, Tryd.ntmps15
  go_wp2_with (go_at_call 20; refine (class_any _ _).mono ?_; rintro e w' ⟨rfl, rfl⟩)
  all_goals
    go_ret
    exact ⟨rfl, rfl⟩
end Go.Proofs.YtkmdojghimfmeaaDoor
